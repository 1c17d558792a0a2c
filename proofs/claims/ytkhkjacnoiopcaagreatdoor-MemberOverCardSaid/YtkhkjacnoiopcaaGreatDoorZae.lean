/-
  Names and their parts, in plain words: no program in sight.
-/
import Derived.Test.YtkhkjacnoiopcaaGreatDoorZaa
import Derived.Lib.SplitLaws
import Derived.Lib.IndexBytes
import Derived.Lib.Join
set_option linter.unusedVariables false
set_option linter.unusedSimpArgs false

set_option linter.unusedVariables false
set_option linter.unusedSimpArgs false
namespace Pth
abbrev Bs := List UInt8

/-- The pieces between slashes. -/
def split : Bs → List Bs
  | [] => [[]]
  | c :: r => if c = 47 then [] :: split r else (c :: (split r).headD []) :: (split r).tail
theorem split_cons (c : UInt8) (r : Bs) : split (c :: r) = if c = 47 then [] :: split r else (c :: (split r).headD []) :: (split r).tail := rfl
theorem split_ne (l : Bs) : split l ≠ [] := by
  cases l with
  | nil => simp [split]
  | cons c r =>
    rw [split_cons]
    by_cases h : c = 47
    · rw [if_pos h]; simp
    · rw [if_neg h]; simp
theorem split_app (a b : Bs) : split (a ++ 47 :: b) = split a ++ split b := by
  induction a with
  | nil => simp [split]
  | cons c r ih =>
    rw [List.cons_append, split_cons, split_cons, ih]
    by_cases h : c = 47
    · rw [if_pos h, if_pos h]; rfl
    · rw [if_neg h, if_neg h]
      cases e : split r with
      | nil => exact absurd e (split_ne r)
      | cons x y => rfl
theorem split_one {p : Bs} (h : (47 : UInt8) ∉ p) : split p = [p] := by
  induction p with
  | nil => rfl
  | cons c r ih =>
    rw [List.mem_cons, not_or] at h
    rw [split_cons, if_neg (fun e => h.1 e.symm), ih h.2]; rfl
theorem split_mem {l p : Bs} (h : p ∈ split l) : (47 : UInt8) ∉ p ∧ p.length ≤ l.length := by
  induction l generalizing p with
  | nil => simp [split] at h; subst h; simp
  | cons c r ih =>
    rw [split_cons] at h
    by_cases hc : c = 47
    · rw [if_pos hc, List.mem_cons] at h
      rcases h with rfl | h
      · simp
      · have := ih h
        exact ⟨this.1, by simp only [List.length_cons]; omega⟩
    · rw [if_neg hc, List.mem_cons] at h
      rcases h with rfl | h
      · cases e : split r with
        | nil => exact absurd e (split_ne r)
        | cons x y =>
          have := ih (p := x) (by rw [e]; simp)
          simp only [List.headD_cons, List.mem_cons, not_or, List.length_cons]
          exact ⟨⟨fun e => hc e.symm, this.1⟩, by omega⟩
      · have := ih (List.mem_of_mem_tail h)
        exact ⟨this.1, by simp only [List.length_cons]; omega⟩
/-- A part that stays. -/
def keep (p : Bs) : Bool := !(p == [] || p == [46])
def parts (l : Bs) : List Bs := (split l).filter keep
theorem parts_app (a b : Bs) : parts (a ++ 47 :: b) = parts a ++ parts b := by
  unfold parts; rw [split_app, List.filter_append]
/-- A part as it may be: neither empty nor a point, with no slash. -/
def Ok (p : Bs) : Prop := p ≠ [] ∧ p ≠ [46] ∧ (47 : UInt8) ∉ p
theorem keep_iff (p : Bs) : keep p = true ↔ p ≠ [] ∧ p ≠ [46] := by simp [keep]
theorem ok_keep {p : Bs} (h : Ok p) : keep p = true := (keep_iff p).2 ⟨h.1, h.2.1⟩
theorem parts_ok {l p : Bs} (h : p ∈ parts l) : Ok p := by
  unfold parts at h
  rw [List.mem_filter] at h
  have := (keep_iff p).1 h.2
  exact ⟨this.1, this.2, (split_mem h.1).1⟩
theorem parts_one {p : Bs} (h : Ok p) : parts p = [p] := by
  unfold parts
  rw [split_one h.2.2, List.filter_cons_of_pos (ok_keep h)]; rfl
/-- Parts, a slash between each two. -/
def join : List Bs → Bs
  | [] => []
  | [p] => p
  | p :: q :: r => p ++ 47 :: join (q :: r)
theorem join_cons (p : Bs) {r : List Bs} (h : r ≠ []) : join (p :: r) = p ++ 47 :: join r := by
  cases r with
  | nil => exact absurd rfl h
  | cons q r => rfl
theorem join_app {a b : List Bs} (ha : a ≠ []) (hb : b ≠ []) : join (a ++ b) = join a ++ 47 :: join b := by
  induction a with
  | nil => exact absurd rfl ha
  | cons p r ih =>
    cases r with
    | nil => rw [List.singleton_append, join_cons p hb]; rfl
    | cons q r =>
      rw [List.cons_append, join_cons p (by simp), ih (by simp), join_cons p (by simp)]
      simp
theorem parts_join {ps : List Bs} (h : ∀ p ∈ ps, Ok p) : parts (join ps) = ps := by
  induction ps with
  | nil => rfl
  | cons p r ih =>
    cases r with
    | nil => exact parts_one (h p (by simp))
    | cons q r =>
      rw [join_cons p (by simp), parts_app, parts_one (h p (by simp)), ih (fun x hx => h x (by simp [hx]))]; rfl
theorem join_ne {ps : List Bs} (h : ∀ p ∈ ps, Ok p) (h0 : ps ≠ []) : join ps ≠ [] := by
  cases ps with
  | nil => exact absurd rfl h0
  | cons p r =>
    cases r with
    | nil => exact (h p (by simp)).1
    | cons q r => rw [join_cons p (by simp)]; simp
/-- '..' -/
abbrev dd : Bs := [46, 46]
def step (x : List Bs × Bool) (p : Bs) : List Bs × Bool := if p ≠ dd then (x.1 ++ [p], x.2) else if x.1 = [] then (x.1, false) else (x.1.dropLast, x.2)
def run (x : List Bs × Bool) (ps : List Bs) : List Bs × Bool := ps.foldl step x
def cleanP (l : Bs) : List Bs × Bool := run ([], true) (parts l)
def clean (l : Bs) : Bs := join (cleanP l).1
def cleanOk (l : Bs) : Bool := (cleanP l).2
/-- Parts of a clean name: no '..' among them. -/
def Cl (ps : List Bs) : Prop := ∀ p ∈ ps, Ok p ∧ p ≠ dd
theorem step_cl {x : List Bs × Bool} {p : Bs} (hx : Cl x.1) (hp : Ok p) : Cl (step x p).1 := by
  unfold step
  by_cases h : p ≠ dd
  · rw [if_pos h]
    intro q hq
    rcases List.mem_append.1 hq with hq | hq
    · exact hx q hq
    · rw [List.mem_singleton] at hq; subst hq; exact ⟨hp, h⟩
  · rw [if_neg h]
    split
    · exact hx
    · exact fun q hq => hx q ((List.dropLast_sublist _).subset hq)
theorem run_cl (ps : List Bs) : ∀ (x : List Bs × Bool), Cl x.1 → (∀ p ∈ ps, Ok p) → Cl (run x ps).1 := by
  induction ps with
  | nil => intro x hx _; exact hx
  | cons p r ih => intro x hx h; exact ih _ (step_cl hx (h p (by simp))) (fun q hq => h q (by simp [hq]))
theorem cleanP_cl (l : Bs) : Cl (cleanP l).1 := run_cl _ _ (fun _ h => by cases h) (fun _ h => parts_ok h)
theorem Cl.ok {ps : List Bs} (h : Cl ps) : ∀ p ∈ ps, Ok p := fun p hp => (h p hp).1
/-- A valid name. -/
def right (l : Bs) : Bool := cleanOk l && clean l == l && !(l == []) && decide (l.length ≤ 120) && decide ((parts l).length ≤ 12) && !(l.contains 0)
theorem right_of {a : Bs} (h : right a = true) : ∃ L, Cl L ∧ L ≠ [] ∧ a = join L ∧ parts a = L ∧ a.length ≤ 120 ∧ L.length ≤ 12 ∧ a.contains 0 = false := by
  unfold right at h
  simp only [Bool.and_eq_true, beq_iff_eq, Bool.not_eq_true', decide_eq_true_eq, beq_eq_false_iff_ne] at h
  obtain ⟨⟨⟨⟨⟨h1, h2⟩, h3⟩, h4⟩, h5⟩, h6⟩ := h
  have hL := cleanP_cl a
  have e : parts a = (cleanP a).1 := by rw [← parts_join hL.ok]; congr 1; exact h2.symm
  refine ⟨(cleanP a).1, hL, fun e0 => h3 ?_, h2.symm, e, h4, by rw [← e]; exact h5, h6⟩
  rw [← h2]; unfold clean; rw [e0]; rfl
/-! Once is enough. -/
/-! Inside a directory. -/
def inn (a d : Bs) : Bool := d == [] || a == d || (d ++ [47]).isPrefixOf a
theorem inn_iff (a d : Bs) : inn a d = true ↔ d = [] ∨ a = d ∨ ∃ r, a = d ++ 47 :: r := by
  unfold inn
  simp only [Bool.or_eq_true, beq_iff_eq, List.isPrefixOf_iff_prefix, or_assoc]
  constructor
  · rintro (h | h | ⟨r, h⟩)
    · exact .inl h
    · exact .inr (.inl h)
    · exact .inr (.inr ⟨r, by rw [← h]; simp⟩)
  · rintro (h | h | ⟨r, h⟩)
    · exact .inl h
    · exact .inr (.inl h)
    · exact .inr (.inr ⟨r, by rw [h]; simp⟩)
theorem inn_trans {a b c : Bs} (h1 : inn a b = true) (h2 : inn b c = true) : inn a c = true := by
  rw [inn_iff] at *
  rcases h2 with rfl | rfl | ⟨r, rfl⟩
  · exact .inl rfl
  · exact h1
  · rcases h1 with h | rfl | ⟨q, rfl⟩
    · simp at h
    · exact .inr (.inr ⟨r, rfl⟩)
    · exact .inr (.inr ⟨r ++ 47 :: q, by simp⟩)
/-- For clean names: inside is a prefix of the parts. -/
theorem inn_parts {A D : List Bs} (hA : Cl A) (hD : Cl D) (h0 : D ≠ []) (hA0 : A ≠ []) : inn (join A) (join D) = true ↔ ∃ R, A = D ++ R := by
  rw [inn_iff]
  constructor
  · rintro (h | h | ⟨r, h⟩)
    · exact absurd h (join_ne hD.ok h0)
    · have := congrArg parts h
      rw [parts_join hA.ok, parts_join hD.ok] at this
      exact ⟨[], by rw [this]; simp⟩
    · have := congrArg parts h
      rw [parts_app, parts_join hA.ok, parts_join hD.ok] at this
      exact ⟨_, this⟩
  · rintro ⟨R, rfl⟩
    by_cases hR : R = []
    · subst hR; right; left; simp
    · right; right; exact ⟨join R, join_app h0 hR⟩

/-! The order of names. -/
/-- Bytes, one text against another: 0, -1 or 1. -/
def cmpB (a b : Bs) : Int := if a < b then -1 else if b < a then 1 else 0
def cmp : List Bs → List Bs → Int
  | [], [] => 0
  | [], _ :: _ => -1
  | _ :: _, [] => 1
  | a :: r, b :: q => if cmpB a b = 0 then cmp r q else cmpB a b
/-! The way from one name to another. -/
/-- '../' n times. -/
def ups : Nat → Bs
  | 0 => []
  | n + 1 => 46 :: 46 :: 47 :: ups n
/-- The number of leading parts that two names have in common, the last parts apart. -/
def same : List Bs → List Bs → Nat
  | a :: x :: r, b :: y :: q => if a = b then same (x :: r) (y :: q) + 1 else 0
  | _, _ => 0
def away (a b : Bs) : Bs := if parts a = [] ∨ parts b = [] then [] else ups ((parts a).length - 1 - same (parts a) (parts b)) ++ join ((parts b).drop (same (parts a) (parts b)))
/-! One name in two: at its last slash. -/
end Pth

set_option linter.unusedVariables false
set_option linter.unusedSimpArgs false
namespace Tre
open Pth

/-- A file. -/
structure Nd where
  kind : Nat
  mode : Int
  uid : Int
  gid : Int
  sec : Int
  nano : Int
  data : Bs
  link : Bs
  major : Int
  minor : Int
  deriving DecidableEq
/-- An action. -/
structure Deed where
  what : Int
  name : Bs
  to : Bs
  n : Int
  node : Nd

def zero : Nd := ⟨0, 0, 0, 0, 0, 0, [], [], 0, 0⟩
def stampR (s n : Int) : Bool := decide (-1099511627776 ≤ s) && decide (s ≤ 1099511627776) && decide (0 ≤ n) && decide (n < 1000000000)
def inR (n lo hi : Int) : Bool := decide (lo ≤ n) && decide (n ≤ hi)
/-- A valid file. -/
def rightN (n : Nd) : Bool :=
  (inR n.kind 48 54 && !(n.kind == 49)) &&
  (inR n.mode 0 4095 && inR n.uid 0 1099511627775 && inR n.gid 0 1099511627775 && stampR n.sec n.nano) &&
  (((!(n.link == [])) == (n.kind == 50)) && decide (n.link.length ≤ 120) && !(n.link.contains 0)) &&
  (inR n.major 0 2097151 && inR n.minor 0 2097151 && ((n.kind == 51 || n.kind == 52) || (n.major == 0 && n.minor == 0))) &&
  (if n.kind = 48 then decide (n.data.length ≤ 4000) else n.data == [])

structure T where
  ents : List (Bs × Nat)
  fl : Nat → Option Nd
  nx : Nat
def look (E : List (Bs × Nat)) (s : Bs) : Option Nat := (E.find? fun p => p.1 == s).map (·.2)
def T.file (t : T) (k : Nat) : Nd := (t.fl k).getD zero
def T.get (t : T) (s : Bs) : Option Nd := (look t.ents s).map t.file
def T.has (t : T) (s : Bs) : Bool := (look t.ents s).isSome
def T.isKind (t : T) (s : Bs) (k : Nat) : Bool := match t.get s with | some n => n.kind == k | none => false
def T.isDir (t : T) (s : Bs) : Bool := t.isKind s 53
def T.alike (t : T) (a b : Bs) : Bool := match look t.ents a, look t.ents b with | some i, some k => i == k | _, _ => false
def T.links (t : T) (s : Bs) : Nat := (t.ents.filter fun p => t.alike s p.1).length
def T.names (t : T) : List Bs := (t.ents.map (·.1)).mergeSort (fun a b => decide (cmp (parts a) (parts b) ≤ 0))
def T.inside (t : T) (s : Bs) : List Bs := t.names.filter fun x => inn x s

def pre (P : List Bs) (i : Nat) : Bs := join (P.take i)
def blocked (t : T) (P : List Bs) : Bool := (List.range P.length).any fun i => decide (1 ≤ i) && (t.has (pre P i) && !t.isDir (pre P i))
/-- The error of a new name (0: none), but for how many there are. -/
def room (t : T) (s : Bs) : Int :=
  if right s = false then 5 else if t.has s = true then 9 else if blocked t (parts s) = true then 6
  else if 2 ≤ (parts s).length ∧ t.has (pre (parts s) ((parts s).length - 1)) = false then 7 else 0
def space (t : T) (s : Bs) : Int := if room t s ≠ 0 then room t s else if 60 ≤ t.ents.length then 12 else 0
def upd {α : Type} (f : Nat → Option α) (k : Nat) (v : Option α) : Nat → Option α := fun i => if i = k then v else f i
def mv (a to x : Bs) : Bs := to ++ x.drop a.length
def ren (a to : Bs) (p : Bs × Nat) : Bs × Nat := if inn p.1 a = true then (mv a to p.1, p.2) else p

def create (t : T) (x : Deed) : T × Int :=
  if rightN x.node = false then (t, 1) else if space t x.name ≠ 0 then (t, space t x.name)
  else (⟨t.ents ++ [(x.name, t.nx + 1)], upd t.fl (t.nx + 1) (some x.node), t.nx + 1⟩, 0)
def again (t : T) (x : Deed) (i : Nat) : T × Int :=
  if t.isDir x.name = true then (t, 6) else if space t x.to ≠ 0 then (t, space t x.to)
  else (⟨t.ents ++ [(x.to, i)], t.fl, t.nx⟩, 0)
def remove (t : T) (x : Deed) (i : Nat) : T × Int :=
  if 1 < (t.inside x.name).length then (t, 6)
  else (⟨t.ents.filter fun p => !(p.1 == x.name), if t.links x.name = 1 then upd t.fl i none else t.fl, t.nx⟩, 0)
def move (t : T) (x : Deed) : T × Int :=
  if inn x.to x.name = true then (t, 11) else if room t x.to ≠ 0 then (t, room t x.to)
  else if (t.inside x.name).any (fun s => !right (mv x.name x.to s)) = true then (t, 5)
  else (⟨t.ents.map (ren x.name x.to), t.fl, t.nx⟩, 0)
def changed (n : Nd) (x : Deed) : Nd :=
  if x.what = 5 then { n with data := x.to } else if x.what = 6 then { n with mode := x.n }
  else if x.what = 7 then { n with uid := x.node.uid, gid := x.node.gid } else if x.what = 8 then { n with sec := x.node.sec, nano := x.node.nano } else n
def change (t : T) (x : Deed) (i : Nat) : T × Int :=
  if x.what = 5 ∧ (t.file i).kind ≠ 48 then (t, 6) else if x.what = 5 ∧ 4000 < x.to.length then (t, 4)
  else if rightN (changed (t.file i) x) = false then (t, 1) else (⟨t.ents, upd t.fl i (some (changed (t.file i) x)), t.nx⟩, 0)
/-- What an action does, and its error (0: none). -/
def act (t : T) (x : Deed) : T × Int :=
  if x.what = 1 then create t x else if x.what < 1 ∨ 8 < x.what then (t, 1)
  else match look t.ents x.name with
    | none => (t, 7)
    | some i => if x.what = 2 then again t x i else if x.what = 3 then remove t x i else if x.what = 4 then move t x else change t x i
/-! Looking up. -/
theorem look_mem {E : List (Bs × Nat)} {s : Bs} {k : Nat} (h : look E s = some k) : (s, k) ∈ E := by
  unfold look at h
  obtain ⟨p, hp, rfl⟩ := Option.map_eq_some_iff.1 h
  have h1 := List.find?_some hp
  have h2 := List.mem_of_find?_eq_some hp
  have e : p.1 = s := by simpa using h1
  rw [← e]; exact h2
theorem look_none {E : List (Bs × Nat)} {s : Bs} : look E s = none ↔ ∀ p ∈ E, p.1 ≠ s := by
  unfold look
  rw [Option.map_eq_none_iff, List.find?_eq_none]
  simp
def Apart (E : List (Bs × Nat)) : Prop := E.Pairwise fun p q => p.1 ≠ q.1
theorem apart_eq {E : List (Bs × Nat)} (h : Apart E) {p q : Bs × Nat} (hp : p ∈ E) (hq : q ∈ E) (e : p.1 = q.1) : p = q := by
  induction E with
  | nil => cases hp
  | cons x E ih =>
    obtain ⟨h1, h2⟩ := List.pairwise_cons.1 h
    rcases List.mem_cons.1 hp with e1 | hp1
    · rcases List.mem_cons.1 hq with e2 | hq1
      · rw [e1, e2]
      · exact absurd (by rw [← e1]; exact e) (h1 q hq1)
    · rcases List.mem_cons.1 hq with e2 | hq1
      · exact absurd (by rw [← e2]; exact e.symm) (h1 p hp1)
      · exact ih h2 hp1 hq1
theorem look_of {E : List (Bs × Nat)} (h : Apart E) {p : Bs × Nat} (hp : p ∈ E) : look E p.1 = some p.2 := by
  cases hl : look E p.1 with
  | none => exact absurd rfl (look_none.1 hl p hp)
  | some k => rw [← apart_eq h (look_mem hl) hp rfl]
theorem look_snoc (E : List (Bs × Nat)) (s x : Bs) (k : Nat) : look (E ++ [(s, k)]) x = if (look E x).isSome then look E x else if x = s then some k else none := by
  unfold look
  rw [List.find?_append]
  cases h : E.find? (fun p => p.1 == x) with
  | some p => simp
  | none =>
    by_cases e : x = s
    · subst e; simp
    · have : ¬ s = x := fun e' => e e'.symm
      simp [this, e]
theorem has_iff {t : T} {s : Bs} : t.has s = true ↔ ∃ k, (s, k) ∈ t.ents := by
  unfold T.has
  constructor
  · intro h
    obtain ⟨k, hk⟩ := Option.isSome_iff_exists.1 h
    exact ⟨k, look_mem hk⟩
  · rintro ⟨k, hk⟩
    cases hl : look t.ents s with
    | none => exact absurd rfl (look_none.1 hl _ hk)
    | some _ => rfl
theorem isKind_iff {t : T} {s : Bs} {c : Nat} : t.isKind s c = true ↔ ∃ k, look t.ents s = some k ∧ (t.file k).kind = c := by
  unfold T.isKind T.get
  cases h : look t.ents s with
  | none => simp
  | some k => simp
theorem isDir_iff {t : T} {s : Bs} : t.isDir s = true ↔ ∃ k, look t.ents s = some k ∧ (t.file k).kind = 53 := isKind_iff
theorem isDir_has {t : T} {s : Bs} (h : t.isDir s = true) : t.has s = true := by
  obtain ⟨k, hk, _⟩ := isDir_iff.1 h
  unfold T.has; rw [hk]; rfl

/-! Names. -/
theorem right_join {s : Bs} (h : right s = true) : join (parts s) = s := by
  obtain ⟨L, hL, _, rfl, e, _⟩ := right_of h
  rw [e]
theorem right_cl {s : Bs} (h : right s = true) : Cl (parts s) ∧ parts s ≠ [] := by
  obtain ⟨L, hL, h0, rfl, e, _⟩ := right_of h
  rw [e]; exact ⟨hL, h0⟩
theorem right_ne {s : Bs} (h : right s = true) : s ≠ [] := by
  obtain ⟨L, hL, h0, rfl, e, h1, h2, _⟩ := right_of h
  exact join_ne hL.ok h0
theorem right_pos {s : Bs} (h : right s = true) : 0 < (parts s).length := List.length_pos_iff.2 (right_cl h).2
theorem cl_take {P : List Bs} (h : Cl P) (i : Nat) : Cl (P.take i) := fun p hp => h p (List.mem_of_mem_take hp)
theorem cl_app {P Q : List Bs} (h : Cl P) (h' : Cl Q) : Cl (P ++ Q) := fun p hp => (List.mem_append.1 hp).elim (h p) (h' p)
theorem parts_pre {P : List Bs} (h : Cl P) (i : Nat) : parts (pre P i) = P.take i := parts_join (cl_take h i).ok
theorem pre_pre {P : List Bs} (h : Cl P) (i j : Nat) (hij : i ≤ j) : pre (parts (pre P j)) i = pre P i := by
  rw [parts_pre h, pre, pre, List.take_take, Nat.min_eq_left hij]
theorem pre_len {P : List Bs} : pre P P.length = join P := by rw [pre, List.take_of_length_le (Nat.le_refl _)]
theorem inn_pre {P : List Bs} (h : Cl P) {i : Nat} (h1 : 1 ≤ i) (h2 : i ≤ P.length) : inn (join P) (pre P i) = true := by
  unfold pre
  have h0 : P ≠ [] := List.ne_nil_of_length_pos (by omega)
  rw [inn_parts h (cl_take h i) (List.ne_nil_of_length_pos (by rw [List.length_take]; omega)) h0]
  exact ⟨P.drop i, (List.take_append_drop i P).symm⟩
theorem inn_right {s d : Bs} (hs : right s = true) (hd : right d = true) : inn s d = true ↔ ∃ i, 1 ≤ i ∧ i ≤ (parts s).length ∧ d = pre (parts s) i := by
  have e1 := right_join hs
  have e2 := right_join hd
  obtain ⟨c1, n1⟩ := right_cl hs
  obtain ⟨c2, n2⟩ := right_cl hd
  constructor
  · intro h
    rw [← e1, ← e2, inn_parts c1 c2 n2 n1] at h
    obtain ⟨R, hR⟩ := h
    refine ⟨(parts d).length, right_pos hd, by rw [hR]; simp, ?_⟩
    rw [pre, hR, List.take_left, e2]
  · rintro ⟨i, h1, h2, rfl⟩
    have := inn_pre c1 h1 h2
    rwa [e1] at this
theorem inn_self (s : Bs) : inn s s = true := (inn_iff s s).2 (.inr (.inl rfl))
/-- A name inside another one, moved. -/
theorem mv_join {A R B : List Bs} (hA : A ≠ []) (hB : B ≠ []) : mv (join A) (join B) (join (A ++ R)) = join (B ++ R) := by
  unfold mv
  by_cases hR : R = []
  · subst hR; simp
  · rw [join_app hA hR, join_app hB hR, List.drop_left]
theorem inn_split {s d : Bs} (hs : right s = true) (hd : right d = true) (h : inn s d = true) : ∃ R, parts s = parts d ++ R := by
  rw [← right_join hs, ← right_join hd, inn_parts (right_cl hs).1 (right_cl hd).1 (right_cl hd).2 (right_cl hs).2] at h
  exact h

/-! What always stands. -/
structure Std (t : T) : Prop where
  nd : Apart t.ents
  ok : ∀ p ∈ t.ents, right p.1 = true ∧ p.2 ≤ t.nx ∧ ∃ n, t.fl p.2 = some n ∧ rightN n = true
  up : ∀ p ∈ t.ents, ∀ i, 1 ≤ i → i < (parts p.1).length → t.isDir (pre (parts p.1) i) = true
  fr : ∀ k n, t.fl k = some n → k ≤ t.nx
  cn : t.ents.length ≤ 60

theorem room_zero {t : T} {s : Bs} (h : room t s = 0) : right s = true ∧ t.has s = false ∧ blocked t (parts s) = false ∧ (2 ≤ (parts s).length → t.has (pre (parts s) ((parts s).length - 1)) = true) := by
  unfold room at h
  split at h
  · cases h
  · split at h
    · cases h
    · split at h
      · cases h
      · split at h
        · cases h
        · rename_i h1 h2 h3 h4
          refine ⟨by simpa using h1, by simpa using h2, by simpa using h3, fun h5 => ?_⟩
          cases h6 : t.has (pre (parts s) ((parts s).length - 1))
          · exact absurd ⟨h5, h6⟩ h4
          · rfl
theorem not_blocked {t : T} {P : List Bs} (h : blocked t P = false) {i : Nat} (h1 : 1 ≤ i) (h2 : i < P.length) (h3 : t.has (pre P i) = true) : t.isDir (pre P i) = true := by
  unfold blocked at h
  rw [List.any_eq_false] at h
  have := h i (List.mem_range.2 h2)
  simp [h1, h3] at this
  exact this
/-- Where a new name may stand, all its directories stand. -/
theorem room_dirs {t : T} (ht : Std t) {s : Bs} (h : room t s = 0) {i : Nat} (h1 : 1 ≤ i) (h2 : i < (parts s).length) : t.isDir (pre (parts s) i) = true := by
  obtain ⟨hr, hh, hb, hu⟩ := room_zero h
  obtain ⟨hc, _⟩ := right_cl hr
  have hhas := hu (by omega)
  have hd := not_blocked hb (i := (parts s).length - 1) (by omega) (by omega) hhas
  by_cases hi : i = (parts s).length - 1
  · rw [hi]; exact hd
  · obtain ⟨k, hk⟩ := has_iff.1 hhas
    have := ht.up _ hk i h1 (by rw [parts_pre hc, List.length_take]; omega)
    rw [pre_pre hc i _ (by omega)] at this
    exact this
theorem room_fresh {t : T} (ht : Std t) {s : Bs} (h : room t s = 0) : ∀ p ∈ t.ents, inn p.1 s = false := fun p hp => by
  obtain ⟨hr, hh, _⟩ := room_zero h
  cases hi : inn p.1 s with
  | false => rfl
  | true =>
    obtain ⟨i, h1, h2, e⟩ := (inn_right (ht.ok p hp).1 hr).1 hi
    have hhas : t.has s = true := by
      by_cases hl : i < (parts p.1).length
      · rw [e]; exact isDir_has (ht.up p hp i h1 hl)
      · have : i = (parts p.1).length := by omega
        rw [this, pre_len, right_join (ht.ok p hp).1] at e
        exact has_iff.2 ⟨p.2, by rw [e]; exact hp⟩
    rw [hh] at hhas; cases hhas
theorem space_zero {t : T} {s : Bs} (h : space t s = 0) : room t s = 0 ∧ t.ents.length < 60 := by
  unfold space at h
  split at h
  · contradiction
  · split at h
    · cases h
    · rename_i h1 h2; exact ⟨by simpa using h1, by omega⟩

theorem Std.add {t : T} (ht : Std t) {s : Bs} {k nx : Nat} {fl : Nat → Option Nd} (hs : space t s = 0) (hn : t.nx ≤ nx) (hk : k ≤ nx) (hf : ∀ i, i ≤ t.nx → fl i = t.fl i) (hfr : ∀ i n, fl i = some n → i ≤ nx)
    (hok : ∃ n, fl k = some n ∧ rightN n = true) : Std ⟨t.ents ++ [(s, k)], fl, nx⟩ := by
  obtain ⟨hr, hc⟩ := space_zero hs
  obtain ⟨r1, r2, r3, r4⟩ := room_zero hr
  have hnone : look t.ents s = none := by unfold T.has at r2; simpa using r2
  have hdir : ∀ x, t.isDir x = true → T.isDir ⟨t.ents ++ [(s, k)], fl, nx⟩ x = true := fun x hx => by
    obtain ⟨j, hj, hd⟩ := isDir_iff.1 hx
    refine isDir_iff.2 ⟨j, by simp only; rw [look_snoc, hj]; rfl, ?_⟩
    have := (ht.ok _ (look_mem hj)).2.1
    unfold T.file at hd ⊢
    simp only
    rw [hf j this]; exact hd
  refine ⟨?_, fun p hp => ?_, fun p hp i h1 h2 => ?_, hfr, by simp; omega⟩
  · refine List.pairwise_append.2 ⟨ht.nd, List.pairwise_singleton _ _, fun p hp q hq => ?_⟩
    obtain rfl : q = (s, k) := by simpa using hq
    exact look_none.1 hnone p hp
  · rcases List.mem_append.1 hp with hp | hp
    · obtain ⟨a, b, n, c, d⟩ := ht.ok p hp
      exact ⟨a, Nat.le_trans b hn, n, (hf _ b).trans c, d⟩
    · obtain rfl : p = (s, k) := by simpa using hp
      exact ⟨r1, hk, hok⟩
  · rcases List.mem_append.1 hp with hp | hp
    · exact hdir _ (ht.up p hp i h1 h2)
    · obtain rfl : p = (s, k) := by simpa using hp
      exact hdir _ (room_dirs ht hr h1 h2)

theorem Std.create {t : T} (ht : Std t) (x : Deed) : Std (create t x).1 := by
  unfold Tre.create
  split
  · exact ht
  · split
    · exact ht
    · rename_i h1 h2
      refine ht.add (by simpa using h2) (Nat.le_succ _) (Nat.le_refl _) (fun i hi => ?_) (fun i n hi => ?_) ⟨x.node, ?_, by simpa using h1⟩
      · unfold upd; rw [if_neg (by omega)]
      · unfold upd at hi; split at hi
        · omega
        · have := ht.fr i n hi; omega
      · unfold upd; rw [if_pos rfl]
theorem Std.again {t : T} (ht : Std t) (x : Deed) {i : Nat} (hi : look t.ents x.name = some i) : Std (again t x i).1 := by
  unfold Tre.again
  split
  · exact ht
  · split
    · exact ht
    · rename_i h1 h2
      obtain ⟨_, a, b⟩ := ht.ok _ (look_mem hi)
      exact ht.add (by simpa using h2) (Nat.le_refl _) a (fun i hi => rfl) ht.fr b

/-! Names in their order. -/
theorem names_perm (t : T) : t.names.Perm (t.ents.map (·.1)) := List.mergeSort_perm _ _
theorem names_mem {t : T} {s : Bs} : s ∈ t.names ↔ t.has s = true := by
  rw [(names_perm t).mem_iff, has_iff, List.mem_map]
  constructor
  · rintro ⟨p, hp, rfl⟩; exact ⟨p.2, hp⟩
  · rintro ⟨k, hk⟩; exact ⟨_, hk, rfl⟩
theorem inside_mem {t : T} {s x : Bs} : x ∈ t.inside s ↔ t.has x = true ∧ inn x s = true := by
  unfold T.inside
  rw [List.mem_filter, names_mem]
theorem names_nodup {t : T} (ht : Apart t.ents) : t.names.Nodup := by
  rw [(names_perm t).nodup_iff, List.nodup_iff_pairwise_ne, List.pairwise_map]
  exact ht
/-- A name under which nothing lies. -/
theorem alone {t : T} (ht : Std t) {a : Bs} (ha : t.has a = true) : (t.inside a).length ≤ 1 ↔ ∀ p ∈ t.ents, inn p.1 a = true → p.1 = a := by
  have hnd : (t.inside a).Nodup := (names_nodup ht.nd).filter _
  have hm : a ∈ t.inside a := inside_mem.2 ⟨ha, inn_self a⟩
  constructor
  · intro h p hp hi
    have hx : p.1 ∈ t.inside a := inside_mem.2 ⟨has_iff.2 ⟨p.2, hp⟩, hi⟩
    match hl : t.inside a, h with
    | [], _ => rw [hl] at hm; cases hm
    | [y], _ =>
      rw [hl] at hm hx
      rw [List.mem_singleton.1 hx, List.mem_singleton.1 hm]
    | y :: z :: r, h => simp at h
  · intro h
    match hl : t.inside a with
    | [] => simp
    | [y] => simp
    | y :: z :: r =>
      exfalso
      rw [hl] at hnd
      have hy : ∀ q ∈ t.inside a, q = a := fun q hq => by
        obtain ⟨h1, h2⟩ := inside_mem.1 hq
        obtain ⟨k, hk⟩ := has_iff.1 h1
        exact h _ hk h2
      have e1 := hy y (by rw [hl]; simp)
      have e2 := hy z (by rw [hl]; simp)
      subst e1; subst e2
      simp at hnd

end Tre

set_option linter.unusedVariables false
set_option linter.unusedSimpArgs false
namespace Tre
open Pth

/-! Taking away. -/
theorem look_filter (E : List (Bs × Nat)) (s x : Bs) (h : x ≠ s) : look (E.filter fun p => !(p.1 == s)) x = look E x := by
  induction E with
  | nil => rfl
  | cons p E ih =>
    by_cases e : p.1 = s
    · have e2 : p.1 ≠ x := fun e' => h (by rw [← e', e])
      rw [List.filter_cons_of_neg (by simp [e]), ih]
      unfold look
      rw [List.find?_cons_of_neg (by simpa using e2)]
    · rw [List.filter_cons_of_pos (by simp [e])]
      unfold look at ih ⊢
      by_cases e2 : p.1 = x
      · rw [List.find?_cons_of_pos (by simpa using e2), List.find?_cons_of_pos (by simpa using e2)]
      · rw [List.find?_cons_of_neg (by simpa using e2), List.find?_cons_of_neg (by simpa using e2)]
        exact ih
theorem alike_of {t : T} {a b : Bs} {i k : Nat} (ha : look t.ents a = some i) (hb : look t.ents b = some k) : t.alike a b = (i == k) := by
  unfold T.alike; rw [ha, hb]
theorem links_of {t : T} (ht : Apart t.ents) {a : Bs} {i : Nat} (ha : look t.ents a = some i) : t.links a = (t.ents.filter fun p => p.2 == i).length := by
  unfold T.links
  congr 1
  refine List.filter_congr fun p hp => ?_
  rw [alike_of ha (look_of ht hp)]
  by_cases e : i = p.2
  · subst e; rfl
  · have e1 : (i == p.2) = false := beq_eq_false_iff_ne.2 e
    have e2 : (p.2 == i) = false := beq_eq_false_iff_ne.2 fun e' => e e'.symm
    rw [e1, e2]
/-- Two names of a file count. -/
theorem two_links {t : T} (ht : Apart t.ents) {a b : Bs} {i : Nat} (ha : (a, i) ∈ t.ents) (hb : (b, i) ∈ t.ents) (hne : a ≠ b) : t.links a ≠ 1 := by
  rw [links_of ht (look_of ht ha)]
  intro h
  have h1 : (a, i) ∈ t.ents.filter fun p => p.2 == i := List.mem_filter.2 ⟨ha, by simp⟩
  have h2 : (b, i) ∈ t.ents.filter fun p => p.2 == i := List.mem_filter.2 ⟨hb, by simp⟩
  obtain ⟨y, hl⟩ := List.length_eq_one_iff.1 h
  rw [hl] at h1 h2
  have := (List.mem_singleton.1 h1).trans (List.mem_singleton.1 h2).symm
  exact hne (by injection this)
theorem links_pos {t : T} (ht : Apart t.ents) {a : Bs} {i : Nat} (ha : (a, i) ∈ t.ents) : 1 ≤ t.links a := by
  rw [links_of ht (look_of ht ha)]
  exact List.length_pos_of_mem (a := (a, i)) (List.mem_filter.2 ⟨ha, by simp⟩)
theorem remove_file {t : T} (ht : Apart t.ents) {a : Bs} {i : Nat} (ha : look t.ents a = some i) {q : Bs × Nat} (hq : q ∈ t.ents) (hne : q.1 ≠ a) :
    (if t.links a = 1 then upd t.fl i none else t.fl) q.2 = t.fl q.2 := by
  split
  · unfold upd
    split
    · rename_i h1 h2
      refine absurd h1 (two_links ht (look_mem ha) (b := q.1) ?_ hne.symm)
      rw [← h2]; exact hq
    · rfl
  · rfl
theorem Std.remove {t : T} (ht : Std t) (x : Deed) {i : Nat} (hi : look t.ents x.name = some i) : Std (remove t x i).1 := by
  unfold Tre.remove
  split
  · exact ht
  · rename_i h1
    have ha : t.has x.name = true := has_iff.2 ⟨i, look_mem hi⟩
    have hal := (alone ht ha).1 (by omega)
    refine ⟨ht.nd.filter _, fun p hp => ?_, fun p hp j h1 h2 => ?_, fun k n hk => ?_, Nat.le_trans (List.length_filter_le _ _) ht.cn⟩
    · obtain ⟨hp1, hp2⟩ := List.mem_filter.1 hp
      obtain ⟨a, b, n, c, d⟩ := ht.ok p hp1
      exact ⟨a, b, n, (remove_file ht.nd hi hp1 (by simpa using hp2)).trans c, d⟩
    · obtain ⟨hp1, hp2⟩ := List.mem_filter.1 hp
      have hr := (ht.ok p hp1).1
      obtain ⟨k, hk, hd⟩ := isDir_iff.1 (ht.up p hp1 j h1 h2)
      have hne : pre (parts p.1) j ≠ x.name := fun e => by
        have := hal p hp1 (by
          have h3 := inn_pre (right_cl hr).1 h1 (Nat.le_of_lt h2)
          rw [right_join hr, e] at h3
          exact h3)
        simp [this] at hp2
      refine isDir_iff.2 ⟨k, ?_, ?_⟩
      · rw [← hk]; exact look_filter _ _ _ hne
      · unfold T.file at hd ⊢
        simp only
        rw [show (if t.links x.name = 1 then upd t.fl i none else t.fl) k = t.fl k from remove_file ht.nd hi (look_mem hk) hne]
        exact hd
    · simp only at hk
      split at hk
      · unfold upd at hk
        split at hk
        · cases hk
        · exact ht.fr k n hk
      · exact ht.fr k n hk

/-! Changing. -/
theorem changed_kind (n : Nd) (x : Deed) : (changed n x).kind = n.kind := by
  unfold changed
  split
  · rfl
  · split
    · rfl
    · split
      · rfl
      · split <;> rfl
theorem Std.upd {t : T} (ht : Std t) {i : Nat} (hi : i ≤ t.nx) {m : Nd} (hm : rightN m = true) (hk : m.kind = (t.file i).kind) : Std ⟨t.ents, upd t.fl i (some m), t.nx⟩ := by
  have hdir : ∀ s, t.isDir s = true → T.isDir ⟨t.ents, Tre.upd t.fl i (some m), t.nx⟩ s = true := fun s h => by
    obtain ⟨k, hk1, hk2⟩ := isDir_iff.1 h
    refine isDir_iff.2 ⟨k, hk1, ?_⟩
    unfold T.file Tre.upd
    simp only
    by_cases e : k = i
    · subst e; rw [if_pos rfl]; simpa [hk] using hk2
    · rw [if_neg e]; exact hk2
  refine ⟨ht.nd, fun p hp => ?_, fun p hp j h1 h2 => hdir _ (ht.up p hp j h1 h2), fun k n h => ?_, ht.cn⟩
  · obtain ⟨a, b, n, c, d⟩ := ht.ok p hp
    by_cases e : p.2 = i
    · exact ⟨a, b, m, by simp only [Tre.upd]; rw [if_pos e], hm⟩
    · exact ⟨a, b, n, by simp only [Tre.upd]; rw [if_neg e]; exact c, d⟩
  · simp only [Tre.upd] at h
    split at h
    · rename_i e; rw [e]; exact hi
    · exact ht.fr k n h
theorem Std.change {t : T} (ht : Std t) (x : Deed) {i : Nat} (hi : look t.ents x.name = some i) : Std (change t x i).1 := by
  unfold Tre.change
  split
  · exact ht
  · split
    · exact ht
    · split
      · exact ht
      · rename_i h
        exact ht.upd (ht.ok _ (look_mem hi)).2.1 (by simpa using h) (changed_kind _ _)

/-! Moving. -/
theorem ren_in {a to : Bs} {p : Bs × Nat} (h : inn p.1 a = true) : ren a to p = (mv a to p.1, p.2) := if_pos h
theorem ren_out {a to : Bs} {p : Bs × Nat} (h : inn p.1 a = false) : ren a to p = p := if_neg (by simp [h])
theorem ren_snd (a to : Bs) (p : Bs × Nat) : (ren a to p).2 = p.2 := by unfold ren; split <;> rfl
theorem mv_inn (a to x : Bs) (h : inn x a = true) (ha : a ≠ []) : inn (mv a to x) to = true := by
  rw [inn_iff] at *
  rcases h with h | rfl | ⟨r, rfl⟩
  · exact absurd h ha
  · right; left; simp [mv]
  · right; right; exact ⟨r, by simp [mv]⟩
theorem mv_back (a to x : Bs) (h : inn x a = true) (ha : a ≠ []) : mv to a (mv a to x) = x := by
  rw [inn_iff] at h
  rcases h with h | rfl | ⟨r, rfl⟩
  · exact absurd h ha
  · simp [mv]
  · simp [mv]
structure Moves (t : T) (a to : Bs) : Prop where
  st : Std t
  ra : right a = true
  cy : inn to a = false
  rm : room t to = 0
  nw : ∀ p ∈ t.ents, inn p.1 a = true → right (mv a to p.1) = true
theorem Moves.fresh {t : T} {a to : Bs} (h : Moves t a to) : ∀ p ∈ t.ents, inn p.1 to = false := room_fresh h.st h.rm
theorem Moves.apart {t : T} {a to : Bs} (h : Moves t a to) : Apart (t.ents.map (ren a to)) := by
  unfold Apart
  rw [List.pairwise_map]
  have ha := right_ne h.ra
  refine h.st.nd.imp_of_mem fun {p q} hp hq hne e => ?_
  cases hp1 : inn p.1 a <;> cases hq1 : inn q.1 a
  · rw [ren_out hp1, ren_out hq1] at e; exact hne e
  · rw [ren_out hp1, ren_in hq1] at e
    have := mv_inn a to q.1 hq1 ha
    simp only at e
    rw [← e, h.fresh p hp] at this; cases this
  · rw [ren_in hp1, ren_out hq1] at e
    have := mv_inn a to p.1 hp1 ha
    simp only at e
    rw [e, h.fresh q hq] at this; cases this
  · rw [ren_in hp1, ren_in hq1] at e
    have e1 := mv_back a to p.1 hp1 ha
    have e2 := mv_back a to q.1 hq1 ha
    simp only at e
    rw [e, e2] at e1
    exact hne e1.symm
def moved (t : T) (a to : Bs) : T := ⟨t.ents.map (ren a to), t.fl, t.nx⟩
theorem Moves.look_out {t : T} {a to : Bs} (h : Moves t a to) {s : Bs} {k : Nat} (hs : inn s a = false) (hl : look t.ents s = some k) : look (moved t a to).ents s = some k := by
  have hm := look_mem hl
  have : (s, k) ∈ (moved t a to).ents := List.mem_map.2 ⟨(s, k), hm, ren_out hs⟩
  exact look_of h.apart this
theorem Moves.look_in {t : T} {a to : Bs} (h : Moves t a to) {s : Bs} {k : Nat} (hs : inn s a = true) (hl : look t.ents s = some k) : look (moved t a to).ents (mv a to s) = some k := by
  have hm := look_mem hl
  have : (mv a to s, k) ∈ (moved t a to).ents := List.mem_map.2 ⟨(s, k), hm, ren_in hs⟩
  exact look_of h.apart this
theorem Moves.dir_out {t : T} {a to : Bs} (h : Moves t a to) {s : Bs} (hs : inn s a = false) (hl : t.isDir s = true) : (moved t a to).isDir s = true := by
  obtain ⟨k, h1, h2⟩ := isDir_iff.1 hl
  exact isDir_iff.2 ⟨k, h.look_out hs h1, h2⟩
theorem Moves.dir_in {t : T} {a to : Bs} (h : Moves t a to) {s : Bs} (hs : inn s a = true) (hl : t.isDir s = true) : (moved t a to).isDir (mv a to s) = true := by
  obtain ⟨k, h1, h2⟩ := isDir_iff.1 hl
  exact isDir_iff.2 ⟨k, h.look_in hs h1, h2⟩
theorem Moves.std {t : T} {a to : Bs} (h : Moves t a to) : Std (moved t a to) := by
  have rt := (room_zero h.rm).1
  obtain ⟨cA, nA⟩ := right_cl h.ra
  obtain ⟨cB, nB⟩ := right_cl rt
  have jA := right_join h.ra
  have jB := right_join rt
  have ha := right_ne h.ra
  refine ⟨h.apart, fun p hp => ?_, fun p hp i h1 h2 => ?_, h.st.fr, by simpa [moved] using h.st.cn⟩
  · obtain ⟨q, hq, rfl⟩ := List.mem_map.1 hp
    obtain ⟨b, c⟩ := h.st.ok q hq
    rw [ren_snd]
    refine ⟨?_, c⟩
    cases hi : inn q.1 a
    · rw [ren_out hi]; exact b
    · rw [ren_in hi]; exact h.nw q hq hi
  · obtain ⟨q, hq, rfl⟩ := List.mem_map.1 hp
    have rq := (h.st.ok q hq).1
    cases hi : inn q.1 a
    · rw [ren_out hi] at h2 ⊢
      refine h.dir_out ?_ (h.st.up q hq i h1 h2)
      cases hx : inn (pre (parts q.1) i) a with
      | false => rfl
      | true =>
        have h3 := inn_pre (right_cl rq).1 h1 (Nat.le_of_lt h2)
        rw [right_join rq] at h3
        rw [inn_trans h3 hx] at hi; cases hi
    · rw [ren_in hi] at h2 ⊢
      simp only at h2 ⊢
      obtain ⟨R, hR⟩ := inn_split rq h.ra hi
      have cQ := (right_cl rq).1
      have e1 : q.1 = join (parts a ++ R) := by rw [← hR, right_join rq]
      have cR : Cl R := fun p hp => cQ p (by rw [hR]; exact List.mem_append.2 (.inr hp))
      have e2 : mv a to q.1 = join (parts to ++ R) := by
        have := mv_join (A := parts a) (R := R) (B := parts to) nA nB
        rw [jA, jB, ← e1] at this; exact this
      have e3 : parts (mv a to q.1) = parts to ++ R := by rw [e2, parts_join (cl_app cB cR).ok]
      rw [e3] at h2 ⊢
      by_cases hl : i < (parts to).length
      · have e4 : pre (parts to ++ R) i = pre (parts to) i := by rw [pre, pre, List.take_append_of_le_length (by omega)]
        rw [e4]
        refine h.dir_out ?_ (room_dirs h.st h.rm h1 hl)
        cases hx : inn (pre (parts to) i) a with
        | false => rfl
        | true =>
          have h3 := inn_pre cB h1 (Nat.le_of_lt hl)
          rw [jB] at h3
          have := inn_trans h3 hx
          rw [h.cy] at this; cases this
      · obtain ⟨j, rfl⟩ : ∃ j, i = (parts to).length + j := ⟨i - (parts to).length, by omega⟩
        rw [List.length_append] at h2
        have e4 : pre (parts to ++ R) ((parts to).length + j) = mv a to (pre (parts q.1) ((parts a).length + j)) := by
          rw [pre, pre, hR, List.take_length_add_append, List.take_length_add_append]
          have := mv_join (A := parts a) (R := R.take j) (B := parts to) nA nB
          rw [jA, jB] at this; exact this.symm
        rw [e4]
        have hl1 : 1 ≤ (parts a).length + j := by have := List.length_pos_iff.2 nA; omega
        have hl2 : (parts a).length + j < (parts q.1).length := by rw [hR, List.length_append]; omega
        refine h.dir_in ?_ (h.st.up q hq _ hl1 hl2)
        have : inn (join (parts a ++ R.take j)) (join (parts a)) = true := by
          rw [inn_parts (cl_app cA (cl_take cR j)) cA nA (by simp [nA])]
          exact ⟨_, rfl⟩
        rw [jA] at this
        rw [pre, hR, List.take_length_add_append]; exact this

theorem moves_of {t : T} (ht : Std t) (x : Deed) (ha : t.has x.name = true) (h1 : inn x.to x.name = false) (h2 : room t x.to = 0) (h3 : (t.inside x.name).any (fun s => !right (mv x.name x.to s)) = false) : Moves t x.name x.to := by
  obtain ⟨k, hk⟩ := has_iff.1 ha
  refine ⟨ht, (ht.ok _ hk).1, h1, h2, fun p hp hi => ?_⟩
  rw [List.any_eq_false] at h3
  have := h3 p.1 (inside_mem.2 ⟨has_iff.2 ⟨p.2, hp⟩, hi⟩)
  simpa using this
theorem Std.move {t : T} (ht : Std t) (x : Deed) (ha : t.has x.name = true) : Std (move t x).1 := by
  unfold Tre.move
  split
  · exact ht
  · split
    · exact ht
    · split
      · exact ht
      · rename_i h1 h2 h3
        exact (moves_of ht x ha (by simpa using h1) (by simpa using h2) (by simpa using h3)).std

theorem Std.act {t : T} (ht : Std t) (x : Deed) : Std (act t x).1 := by
  unfold Tre.act
  split
  · exact ht.create x
  · split
    · exact ht
    · split
      · exact ht
      · rename_i i hi
        split
        · exact ht.again x hi
        · split
          · exact ht.remove x hi
          · split
            · exact ht.move x (has_iff.2 ⟨i, look_mem hi⟩)
            · exact ht.change x hi
/-! The number of files. -/
/-! The same. -/
/-! Data and who owns it. -/
end Tre

set_option linter.unusedVariables false
set_option linter.unusedSimpArgs false
namespace Tre
open Pth

/-- Where a link leads. -/
def toP (at_ link : Bs) : Bs × Bool :=
  if link.head? = some 47 then (clean link, cleanOk link) else (clean (join (parts at_).dropLast ++ 47 :: link), cleanOk (join (parts at_).dropLast ++ 47 :: link))
/-- The number of parts of the shortest prefix that is a link (0: none). -/
def soft (t : T) (P : List Bs) : Nat := match (List.range P.length).find? fun i => t.isKind (pre P (i + 1)) 50 with | some i => i + 1 | none => 0
def ends (t : T) (now : Bs) : Bs × Int := if now ≠ [] ∧ t.has now = false then ([], 7) else (now, 0)
def linkAt (t : T) (s : Bs) : Bs := match t.get s with | some n => n.link | none => []
def hop (t : T) (now : Bs) : Bs × Bool := toP (pre (parts now) (soft t (parts now))) (linkAt t (pre (parts now) (soft t (parts now))))
def next (t : T) (now : Bs) : Bs := join (parts (hop t now).1 ++ (parts now).drop (soft t (parts now)))
def goes (t : T) : Nat → Bs → Bs × Int
  | 0, now => if soft t (parts now) = 0 then ends t now else ([], 11)
  | g + 1, now => if soft t (parts now) = 0 then ends t now else if (hop t now).2 = false then ([], 5) else goes t g (next t now)
/-! What the statements ask. -/
theorem Std.name {t : T} (ht : Std t) {s : Bs} (h : s ∈ t.names) : ∃ k, look t.ents s = some k ∧ right s = true ∧ rightN (t.file k) = true ∧ 1 ≤ t.links s := by
  obtain ⟨k, hk⟩ := has_iff.1 (names_mem.1 h)
  obtain ⟨a, _, n, b, c⟩ := ht.ok _ hk
  refine ⟨k, look_of ht.nd hk, a, ?_, links_pos ht.nd hk⟩
  unfold T.file; rw [b]; exact c
theorem Std.dir {t : T} (ht : Std t) {s : Bs} (h : s ∈ t.names) (h0 : join (parts s).dropLast ≠ []) : ∃ k, look t.ents (join (parts s).dropLast) = some k ∧ (t.file k).kind = 53 := by
  obtain ⟨k, hk⟩ := has_iff.1 (names_mem.1 h)
  have hl : 2 ≤ (parts s).length := by
    rcases Nat.lt_or_ge 1 (parts s).length with h1 | h1
    · exact h1
    · exfalso; apply h0
      have : (parts s).dropLast = [] := List.eq_nil_of_length_eq_zero (by rw [List.length_dropLast]; omega)
      rw [this]; rfl
  have := ht.up _ hk ((parts s).length - 1) (by show 1 ≤ (parts s).length - 1; omega) (by show (parts s).length - 1 < (parts s).length; omega)
  have e : pre (parts s) ((parts s).length - 1) = join (parts s).dropLast := by rw [pre, ← List.dropLast_eq_take]
  simp only at this
  rw [e] at this
  exact isDir_iff.1 this
end Tre
