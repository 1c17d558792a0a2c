/-
  File trees, plain: what each action does, and what always stands.
-/
import Derived.Test.YtehooifcgfkngaaDoorPathPlain
namespace Tre
open Pth

/-- A file. -/
structure Nd where
  kind : Nat
  mode : Int
  uid : Int
  gid : Int
  sec : Int
  nano : Int
  data : Bs
  link : Bs
  major : Int
  minor : Int
  deriving DecidableEq
/-- An action. -/
structure Deed where
  what : Int
  name : Bs
  to : Bs
  n : Int
  node : Nd

def zero : Nd := ⟨0, 0, 0, 0, 0, 0, [], [], 0, 0⟩
def stampR (s n : Int) : Bool := decide (-1099511627776 ≤ s) && decide (s ≤ 1099511627776) && decide (0 ≤ n) && decide (n < 1000000000)
def inR (n lo hi : Int) : Bool := decide (lo ≤ n) && decide (n ≤ hi)
/-- A valid file. -/
def rightN (n : Nd) : Bool :=
  (inR n.kind 48 54 && !(n.kind == 49)) &&
  (inR n.mode 0 4095 && inR n.uid 0 1099511627775 && inR n.gid 0 1099511627775 && stampR n.sec n.nano) &&
  (((!(n.link == [])) == (n.kind == 50)) && decide (n.link.length ≤ 120) && !(n.link.contains 0)) &&
  (inR n.major 0 2097151 && inR n.minor 0 2097151 && ((n.kind == 51 || n.kind == 52) || (n.major == 0 && n.minor == 0))) &&
  (if n.kind = 48 then decide (n.data.length ≤ 4000) else n.data == [])

structure T where
  ents : List (Bs × Nat)
  fl : Nat → Option Nd
  nx : Nat
def none_ : T := ⟨[], fun _ => none, 0⟩

def look (E : List (Bs × Nat)) (s : Bs) : Option Nat := (E.find? fun p => p.1 == s).map (·.2)
def T.file (t : T) (k : Nat) : Nd := (t.fl k).getD zero
def T.get (t : T) (s : Bs) : Option Nd := (look t.ents s).map t.file
def T.has (t : T) (s : Bs) : Bool := (look t.ents s).isSome
def T.isKind (t : T) (s : Bs) (k : Nat) : Bool := match t.get s with | some n => n.kind == k | none => false
def T.isDir (t : T) (s : Bs) : Bool := t.isKind s 53
def T.alike (t : T) (a b : Bs) : Bool := match look t.ents a, look t.ents b with | some i, some k => i == k | _, _ => false
def T.links (t : T) (s : Bs) : Nat := (t.ents.filter fun p => t.alike s p.1).length
def T.names (t : T) : List Bs := (t.ents.map (·.1)).mergeSort (fun a b => decide (cmp (parts a) (parts b) ≤ 0))
def T.inside (t : T) (s : Bs) : List Bs := t.names.filter fun x => inn x s

def pre (P : List Bs) (i : Nat) : Bs := join (P.take i)
def blocked (t : T) (P : List Bs) : Bool := (List.range P.length).any fun i => decide (1 ≤ i) && (t.has (pre P i) && !t.isDir (pre P i))
/-- The error of a new name (0: none), but for how many there are. -/
def room (t : T) (s : Bs) : Int :=
  if right s = false then 5 else if t.has s = true then 9 else if blocked t (parts s) = true then 6
  else if 2 ≤ (parts s).length ∧ t.has (pre (parts s) ((parts s).length - 1)) = false then 7 else 0
def space (t : T) (s : Bs) : Int := if room t s ≠ 0 then room t s else if 60 ≤ t.ents.length then 12 else 0
def upd {α : Type} (f : Nat → Option α) (k : Nat) (v : Option α) : Nat → Option α := fun i => if i = k then v else f i
def mv (a to x : Bs) : Bs := to ++ x.drop a.length
def ren (a to : Bs) (p : Bs × Nat) : Bs × Nat := if inn p.1 a = true then (mv a to p.1, p.2) else p

def create (t : T) (x : Deed) : T × Int :=
  if rightN x.node = false then (t, 1) else if space t x.name ≠ 0 then (t, space t x.name)
  else (⟨t.ents ++ [(x.name, t.nx + 1)], upd t.fl (t.nx + 1) (some x.node), t.nx + 1⟩, 0)
def again (t : T) (x : Deed) (i : Nat) : T × Int :=
  if t.isDir x.name = true then (t, 6) else if space t x.to ≠ 0 then (t, space t x.to)
  else (⟨t.ents ++ [(x.to, i)], t.fl, t.nx⟩, 0)
def remove (t : T) (x : Deed) (i : Nat) : T × Int :=
  if 1 < (t.inside x.name).length then (t, 6)
  else (⟨t.ents.filter fun p => !(p.1 == x.name), if t.links x.name = 1 then upd t.fl i none else t.fl, t.nx⟩, 0)
def move (t : T) (x : Deed) : T × Int :=
  if inn x.to x.name = true then (t, 11) else if room t x.to ≠ 0 then (t, room t x.to)
  else if (t.inside x.name).any (fun s => !right (mv x.name x.to s)) = true then (t, 5)
  else (⟨t.ents.map (ren x.name x.to), t.fl, t.nx⟩, 0)
def changed (n : Nd) (x : Deed) : Nd :=
  if x.what = 5 then { n with data := x.to } else if x.what = 6 then { n with mode := x.n }
  else if x.what = 7 then { n with uid := x.node.uid, gid := x.node.gid } else if x.what = 8 then { n with sec := x.node.sec, nano := x.node.nano } else n
def change (t : T) (x : Deed) (i : Nat) : T × Int :=
  if x.what = 5 ∧ (t.file i).kind ≠ 48 then (t, 6) else if x.what = 5 ∧ 4000 < x.to.length then (t, 4)
  else if rightN (changed (t.file i) x) = false then (t, 1) else (⟨t.ents, upd t.fl i (some (changed (t.file i) x)), t.nx⟩, 0)
/-- What an action does, and its error (0: none). -/
def act (t : T) (x : Deed) : T × Int :=
  if x.what = 1 then create t x else if x.what < 1 ∨ 8 < x.what then (t, 1)
  else match look t.ents x.name with
    | none => (t, 7)
    | some i => if x.what = 2 then again t x i else if x.what = 3 then remove t x i else if x.what = 4 then move t x else change t x i
def plant (l : List Deed) : T := l.foldl (fun t x => (act t x).1) none_

/-- The same contents. -/
def Same (t u : T) : Prop := t.ents.length = u.ents.length ∧ (∀ p ∈ t.ents, ∃ k, look u.ents p.1 = some k ∧ t.file p.2 = u.file k) ∧
  ∀ p ∈ t.ents, ∀ q ∈ t.ents, ∀ k l, look u.ents p.1 = some k → look u.ents q.1 = some l → (p.2 = q.2 ↔ k = l)

/-! Looking up. -/
theorem look_mem {E : List (Bs × Nat)} {s : Bs} {k : Nat} (h : look E s = some k) : (s, k) ∈ E := by
  unfold look at h
  obtain ⟨p, hp, rfl⟩ := Option.map_eq_some_iff.1 h
  have h1 := List.find?_some hp
  have h2 := List.mem_of_find?_eq_some hp
  have e : p.1 = s := by simpa using h1
  rw [← e]; exact h2
theorem look_none {E : List (Bs × Nat)} {s : Bs} : look E s = none ↔ ∀ p ∈ E, p.1 ≠ s := by
  unfold look
  rw [Option.map_eq_none_iff, List.find?_eq_none]
  simp
def Apart (E : List (Bs × Nat)) : Prop := E.Pairwise fun p q => p.1 ≠ q.1
theorem apart_eq {E : List (Bs × Nat)} (h : Apart E) {p q : Bs × Nat} (hp : p ∈ E) (hq : q ∈ E) (e : p.1 = q.1) : p = q := by
  induction E with
  | nil => cases hp
  | cons x E ih =>
    obtain ⟨h1, h2⟩ := List.pairwise_cons.1 h
    rcases List.mem_cons.1 hp with e1 | hp1
    · rcases List.mem_cons.1 hq with e2 | hq1
      · rw [e1, e2]
      · exact absurd (by rw [← e1]; exact e) (h1 q hq1)
    · rcases List.mem_cons.1 hq with e2 | hq1
      · exact absurd (by rw [← e2]; exact e.symm) (h1 p hp1)
      · exact ih h2 hp1 hq1
theorem look_of {E : List (Bs × Nat)} (h : Apart E) {p : Bs × Nat} (hp : p ∈ E) : look E p.1 = some p.2 := by
  cases hl : look E p.1 with
  | none => exact absurd rfl (look_none.1 hl p hp)
  | some k => rw [← apart_eq h (look_mem hl) hp rfl]
theorem look_perm {E F : List (Bs × Nat)} (h : Apart E) (hp : E.Perm F) (s : Bs) : look E s = look F s := by
  have hF : Apart F := (hp.pairwise_iff (fun h e => h e.symm)).1 h
  cases hl : look E s with
  | none => exact (look_none.2 fun p hp' => look_none.1 hl p (hp.mem_iff.2 hp')).symm
  | some k => exact (look_of hF (hp.mem_iff.1 (look_mem hl))).symm
theorem look_snoc (E : List (Bs × Nat)) (s x : Bs) (k : Nat) : look (E ++ [(s, k)]) x = if (look E x).isSome then look E x else if x = s then some k else none := by
  unfold look
  rw [List.find?_append]
  cases h : E.find? (fun p => p.1 == x) with
  | some p => simp
  | none =>
    by_cases e : x = s
    · subst e; simp
    · have : ¬ s = x := fun e' => e e'.symm
      simp [this, e]
theorem has_iff {t : T} {s : Bs} : t.has s = true ↔ ∃ k, (s, k) ∈ t.ents := by
  unfold T.has
  constructor
  · intro h
    obtain ⟨k, hk⟩ := Option.isSome_iff_exists.1 h
    exact ⟨k, look_mem hk⟩
  · rintro ⟨k, hk⟩
    cases hl : look t.ents s with
    | none => exact absurd rfl (look_none.1 hl _ hk)
    | some _ => rfl
theorem isKind_iff {t : T} {s : Bs} {c : Nat} : t.isKind s c = true ↔ ∃ k, look t.ents s = some k ∧ (t.file k).kind = c := by
  unfold T.isKind T.get
  cases h : look t.ents s with
  | none => simp
  | some k => simp
theorem isDir_iff {t : T} {s : Bs} : t.isDir s = true ↔ ∃ k, look t.ents s = some k ∧ (t.file k).kind = 53 := isKind_iff
theorem isDir_has {t : T} {s : Bs} (h : t.isDir s = true) : t.has s = true := by
  obtain ⟨k, hk, _⟩ := isDir_iff.1 h
  unfold T.has; rw [hk]; rfl

/-! Names. -/
theorem right_join {s : Bs} (h : right s = true) : join (parts s) = s := by
  obtain ⟨L, hL, _, rfl, e, _⟩ := right_of h
  rw [e]
theorem right_cl {s : Bs} (h : right s = true) : Cl (parts s) ∧ parts s ≠ [] := by
  obtain ⟨L, hL, h0, rfl, e, _⟩ := right_of h
  rw [e]; exact ⟨hL, h0⟩
theorem right_len {s : Bs} (h : right s = true) : s.length ≤ 120 ∧ (parts s).length ≤ 12 := by
  obtain ⟨L, hL, h0, rfl, e, h1, h2, _⟩ := right_of h
  rw [e]; exact ⟨h1, h2⟩
theorem right_ne {s : Bs} (h : right s = true) : s ≠ [] := by
  obtain ⟨L, hL, h0, rfl, e, h1, h2, _⟩ := right_of h
  exact join_ne hL.ok h0
theorem right_pos {s : Bs} (h : right s = true) : 0 < (parts s).length := List.length_pos_iff.2 (right_cl h).2
theorem cl_take {P : List Bs} (h : Cl P) (i : Nat) : Cl (P.take i) := fun p hp => h p (List.mem_of_mem_take hp)
theorem cl_drop {P : List Bs} (h : Cl P) (i : Nat) : Cl (P.drop i) := fun p hp => h p (List.mem_of_mem_drop hp)
theorem cl_app {P Q : List Bs} (h : Cl P) (h' : Cl Q) : Cl (P ++ Q) := fun p hp => (List.mem_append.1 hp).elim (h p) (h' p)
theorem parts_pre {P : List Bs} (h : Cl P) (i : Nat) : parts (pre P i) = P.take i := parts_join (cl_take h i).ok
theorem pre_pre {P : List Bs} (h : Cl P) (i j : Nat) (hij : i ≤ j) : pre (parts (pre P j)) i = pre P i := by
  rw [parts_pre h, pre, pre, List.take_take, Nat.min_eq_left hij]
theorem pre_len {P : List Bs} : pre P P.length = join P := by rw [pre, List.take_of_length_le (Nat.le_refl _)]
theorem inn_pre {P : List Bs} (h : Cl P) {i : Nat} (h1 : 1 ≤ i) (h2 : i ≤ P.length) : inn (join P) (pre P i) = true := by
  unfold pre
  have h0 : P ≠ [] := List.ne_nil_of_length_pos (by omega)
  rw [inn_parts h (cl_take h i) (List.ne_nil_of_length_pos (by rw [List.length_take]; omega)) h0]
  exact ⟨P.drop i, (List.take_append_drop i P).symm⟩
theorem inn_right {s d : Bs} (hs : right s = true) (hd : right d = true) : inn s d = true ↔ ∃ i, 1 ≤ i ∧ i ≤ (parts s).length ∧ d = pre (parts s) i := by
  have e1 := right_join hs
  have e2 := right_join hd
  obtain ⟨c1, n1⟩ := right_cl hs
  obtain ⟨c2, n2⟩ := right_cl hd
  constructor
  · intro h
    rw [← e1, ← e2, inn_parts c1 c2 n2 n1] at h
    obtain ⟨R, hR⟩ := h
    refine ⟨(parts d).length, right_pos hd, by rw [hR]; simp, ?_⟩
    rw [pre, hR, List.take_left, e2]
  · rintro ⟨i, h1, h2, rfl⟩
    have := inn_pre c1 h1 h2
    rwa [e1] at this
theorem inn_self (s : Bs) : inn s s = true := (inn_iff s s).2 (.inr (.inl rfl))
theorem parts_inj {s d : Bs} (hs : right s = true) (hd : right d = true) (e : parts s = parts d) : s = d := by
  rw [← right_join hs, ← right_join hd, e]
/-- A name inside another one, moved. -/
theorem mv_join {A R B : List Bs} (hA : A ≠ []) (hB : B ≠ []) : mv (join A) (join B) (join (A ++ R)) = join (B ++ R) := by
  unfold mv
  by_cases hR : R = []
  · subst hR; simp
  · rw [join_app hA hR, join_app hB hR, List.drop_left]
theorem inn_split {s d : Bs} (hs : right s = true) (hd : right d = true) (h : inn s d = true) : ∃ R, parts s = parts d ++ R := by
  rw [← right_join hs, ← right_join hd, inn_parts (right_cl hs).1 (right_cl hd).1 (right_cl hd).2 (right_cl hs).2] at h
  exact h

/-! What always stands. -/
structure Std (t : T) : Prop where
  nd : Apart t.ents
  ok : ∀ p ∈ t.ents, right p.1 = true ∧ p.2 ≤ t.nx ∧ ∃ n, t.fl p.2 = some n ∧ rightN n = true
  up : ∀ p ∈ t.ents, ∀ i, 1 ≤ i → i < (parts p.1).length → t.isDir (pre (parts p.1) i) = true
  fr : ∀ k n, t.fl k = some n → k ≤ t.nx
  cn : t.ents.length ≤ 60

theorem Std.none_ : Std none_ := ⟨List.Pairwise.nil, fun p h => (by cases h), fun p h => (by cases h), fun k n h => (by cases h), Nat.zero_le _⟩
theorem room_zero {t : T} {s : Bs} (h : room t s = 0) : right s = true ∧ t.has s = false ∧ blocked t (parts s) = false ∧ (2 ≤ (parts s).length → t.has (pre (parts s) ((parts s).length - 1)) = true) := by
  unfold room at h
  split at h
  · cases h
  · split at h
    · cases h
    · split at h
      · cases h
      · split at h
        · cases h
        · rename_i h1 h2 h3 h4
          refine ⟨by simpa using h1, by simpa using h2, by simpa using h3, fun h5 => ?_⟩
          cases h6 : t.has (pre (parts s) ((parts s).length - 1))
          · exact absurd ⟨h5, h6⟩ h4
          · rfl
theorem not_blocked {t : T} {P : List Bs} (h : blocked t P = false) {i : Nat} (h1 : 1 ≤ i) (h2 : i < P.length) (h3 : t.has (pre P i) = true) : t.isDir (pre P i) = true := by
  unfold blocked at h
  rw [List.any_eq_false] at h
  have := h i (List.mem_range.2 h2)
  simp [h1, h3] at this
  exact this
/-- Where a new name may stand, all its directories stand. -/
theorem room_dirs {t : T} (ht : Std t) {s : Bs} (h : room t s = 0) {i : Nat} (h1 : 1 ≤ i) (h2 : i < (parts s).length) : t.isDir (pre (parts s) i) = true := by
  obtain ⟨hr, hh, hb, hu⟩ := room_zero h
  obtain ⟨hc, _⟩ := right_cl hr
  have hhas := hu (by omega)
  have hd := not_blocked hb (i := (parts s).length - 1) (by omega) (by omega) hhas
  by_cases hi : i = (parts s).length - 1
  · rw [hi]; exact hd
  · obtain ⟨k, hk⟩ := has_iff.1 hhas
    have := ht.up _ hk i h1 (by rw [parts_pre hc, List.length_take]; omega)
    rw [pre_pre hc i _ (by omega)] at this
    exact this
theorem room_fresh {t : T} (ht : Std t) {s : Bs} (h : room t s = 0) : ∀ p ∈ t.ents, inn p.1 s = false := fun p hp => by
  obtain ⟨hr, hh, _⟩ := room_zero h
  cases hi : inn p.1 s with
  | false => rfl
  | true =>
    obtain ⟨i, h1, h2, e⟩ := (inn_right (ht.ok p hp).1 hr).1 hi
    have hhas : t.has s = true := by
      by_cases hl : i < (parts p.1).length
      · rw [e]; exact isDir_has (ht.up p hp i h1 hl)
      · have : i = (parts p.1).length := by omega
        rw [this, pre_len, right_join (ht.ok p hp).1] at e
        exact has_iff.2 ⟨p.2, by rw [e]; exact hp⟩
    rw [hh] at hhas; cases hhas
theorem space_zero {t : T} {s : Bs} (h : space t s = 0) : room t s = 0 ∧ t.ents.length < 60 := by
  unfold space at h
  split at h
  · contradiction
  · split at h
    · cases h
    · rename_i h1 h2; exact ⟨by simpa using h1, by omega⟩

theorem Std.add {t : T} (ht : Std t) {s : Bs} {k nx : Nat} {fl : Nat → Option Nd} (hs : space t s = 0) (hn : t.nx ≤ nx) (hk : k ≤ nx) (hf : ∀ i, i ≤ t.nx → fl i = t.fl i) (hfr : ∀ i n, fl i = some n → i ≤ nx)
    (hok : ∃ n, fl k = some n ∧ rightN n = true) : Std ⟨t.ents ++ [(s, k)], fl, nx⟩ := by
  obtain ⟨hr, hc⟩ := space_zero hs
  obtain ⟨r1, r2, r3, r4⟩ := room_zero hr
  have hnone : look t.ents s = none := by unfold T.has at r2; simpa using r2
  have hdir : ∀ x, t.isDir x = true → T.isDir ⟨t.ents ++ [(s, k)], fl, nx⟩ x = true := fun x hx => by
    obtain ⟨j, hj, hd⟩ := isDir_iff.1 hx
    refine isDir_iff.2 ⟨j, by simp only; rw [look_snoc, hj]; rfl, ?_⟩
    have := (ht.ok _ (look_mem hj)).2.1
    unfold T.file at hd ⊢
    simp only
    rw [hf j this]; exact hd
  refine ⟨?_, fun p hp => ?_, fun p hp i h1 h2 => ?_, hfr, by simp; omega⟩
  · refine List.pairwise_append.2 ⟨ht.nd, List.pairwise_singleton _ _, fun p hp q hq => ?_⟩
    obtain rfl : q = (s, k) := by simpa using hq
    exact look_none.1 hnone p hp
  · rcases List.mem_append.1 hp with hp | hp
    · obtain ⟨a, b, n, c, d⟩ := ht.ok p hp
      exact ⟨a, Nat.le_trans b hn, n, (hf _ b).trans c, d⟩
    · obtain rfl : p = (s, k) := by simpa using hp
      exact ⟨r1, hk, hok⟩
  · rcases List.mem_append.1 hp with hp | hp
    · exact hdir _ (ht.up p hp i h1 h2)
    · obtain rfl : p = (s, k) := by simpa using hp
      exact hdir _ (room_dirs ht hr h1 h2)

theorem Std.create {t : T} (ht : Std t) (x : Deed) : Std (create t x).1 := by
  unfold Tre.create
  split
  · exact ht
  · split
    · exact ht
    · rename_i h1 h2
      refine ht.add (by simpa using h2) (Nat.le_succ _) (Nat.le_refl _) (fun i hi => ?_) (fun i n hi => ?_) ⟨x.node, ?_, by simpa using h1⟩
      · unfold upd; rw [if_neg (by omega)]
      · unfold upd at hi; split at hi
        · omega
        · have := ht.fr i n hi; omega
      · unfold upd; rw [if_pos rfl]
theorem Std.again {t : T} (ht : Std t) (x : Deed) {i : Nat} (hi : look t.ents x.name = some i) : Std (again t x i).1 := by
  unfold Tre.again
  split
  · exact ht
  · split
    · exact ht
    · rename_i h1 h2
      obtain ⟨_, a, b⟩ := ht.ok _ (look_mem hi)
      exact ht.add (by simpa using h2) (Nat.le_refl _) a (fun i hi => rfl) ht.fr b

/-! Names in their order. -/
theorem names_perm (t : T) : t.names.Perm (t.ents.map (·.1)) := List.mergeSort_perm _ _
theorem names_mem {t : T} {s : Bs} : s ∈ t.names ↔ t.has s = true := by
  rw [(names_perm t).mem_iff, has_iff, List.mem_map]
  constructor
  · rintro ⟨p, hp, rfl⟩; exact ⟨p.2, hp⟩
  · rintro ⟨k, hk⟩; exact ⟨_, hk, rfl⟩
theorem cmp_le_trans (a b c : List Bs) (h1 : cmp a b ≤ 0) (h2 : cmp b c ≤ 0) : cmp a c ≤ 0 := by
  rcases Int.lt_or_eq_of_le h1 with h1 | h1
  · rcases Int.lt_or_eq_of_le h2 with h2 | h2
    · exact Int.le_of_lt (cmp_trans a b c h1 h2)
    · rw [(cmp_zero b c).1 h2] at h1; exact Int.le_of_lt h1
  · rw [(cmp_zero a b).1 h1]; exact h2
theorem cmp_total (a b : List Bs) : cmp a b ≤ 0 ∨ cmp b a ≤ 0 := by
  rcases Int.lt_or_le 0 (cmp a b) with h | h
  · exact .inr (Int.le_of_lt ((cmp_anti b a).2 h))
  · exact .inl h
theorem names_sorted (t : T) : t.names.Pairwise fun a b => cmp (parts a) (parts b) ≤ 0 := by
  have := List.pairwise_mergeSort (le := fun a b => decide (cmp (parts a) (parts b) ≤ 0)) (fun a b c h1 h2 => by
    simp only [decide_eq_true_eq] at *
    exact cmp_le_trans _ _ _ h1 h2) (fun a b => by
    simp only [Bool.or_eq_true, decide_eq_true_eq]
    exact cmp_total _ _) (t.ents.map (·.1))
  exact this.imp fun h => by simpa using h
theorem eq_names {t : T} (ht : Std t) {L : List Bs} (hp : L.Perm (t.ents.map (·.1))) (hs : L.Pairwise fun a b => cmp (parts a) (parts b) ≤ 0) : L = t.names := by
  have hr : ∀ a ∈ L, right a = true := fun a ha => by
    obtain ⟨p, hp', rfl⟩ := List.mem_map.1 (hp.mem_iff.1 ha)
    exact (ht.ok p hp').1
  refine (hp.trans (names_perm t).symm).eq_of_pairwise (le := fun a b => cmp (parts a) (parts b) ≤ 0) (fun a b ha hb h1 h2 => ?_) hs (names_sorted t)
  have hb' : right b = true := hr b ((hp.trans (names_perm t).symm).mem_iff.2 hb)
  refine parts_inj (hr a ha) hb' ((cmp_zero _ _).1 ?_)
  rcases Int.lt_or_eq_of_le h1 with h | h
  · have := (cmp_anti _ _).1 h; omega
  · exact h
theorem inside_mem {t : T} {s x : Bs} : x ∈ t.inside s ↔ t.has x = true ∧ inn x s = true := by
  unfold T.inside
  rw [List.mem_filter, names_mem]
theorem names_nodup {t : T} (ht : Apart t.ents) : t.names.Nodup := by
  rw [(names_perm t).nodup_iff, List.nodup_iff_pairwise_ne, List.pairwise_map]
  exact ht
/-- A name under which nothing lies. -/
theorem alone {t : T} (ht : Std t) {a : Bs} (ha : t.has a = true) : (t.inside a).length ≤ 1 ↔ ∀ p ∈ t.ents, inn p.1 a = true → p.1 = a := by
  have hnd : (t.inside a).Nodup := (names_nodup ht.nd).filter _
  have hm : a ∈ t.inside a := inside_mem.2 ⟨ha, inn_self a⟩
  constructor
  · intro h p hp hi
    have hx : p.1 ∈ t.inside a := inside_mem.2 ⟨has_iff.2 ⟨p.2, hp⟩, hi⟩
    match hl : t.inside a, h with
    | [], _ => rw [hl] at hm; cases hm
    | [y], _ =>
      rw [hl] at hm hx
      rw [List.mem_singleton.1 hx, List.mem_singleton.1 hm]
    | y :: z :: r, h => simp at h
  · intro h
    match hl : t.inside a with
    | [] => simp
    | [y] => simp
    | y :: z :: r =>
      exfalso
      rw [hl] at hnd
      have hy : ∀ q ∈ t.inside a, q = a := fun q hq => by
        obtain ⟨h1, h2⟩ := inside_mem.1 hq
        obtain ⟨k, hk⟩ := has_iff.1 h1
        exact h _ hk h2
      have e1 := hy y (by rw [hl]; simp)
      have e2 := hy z (by rw [hl]; simp)
      subst e1; subst e2
      simp at hnd

end Tre
