/-
  Patterns as plain lists of bytes: no program in sight.
-/
namespace Glb

/-- one element: a byte, or a backslash and a byte. -/
def one : List UInt8 → Option (UInt8 × List UInt8)
  | [] => none
  | c :: r => if c = 92 then (match r with | [] => none | d :: r' => some (d, r')) else some (c, r)

/-- does a range follow? -/
def ranged : List UInt8 → Bool
  | c :: d :: _ => c == 45 && d != 93
  | _ => false

theorem one_len {l r : List UInt8} {c : UInt8} (h : one l = some (c, r)) : r.length < l.length := by
  cases l with
  | nil => simp [one] at h
  | cons x t =>
    by_cases hx : x = 92
    · cases t with
      | nil => simp [one, hx] at h
      | cons d r' => simp [one, hx] at h; obtain ⟨_, rfl⟩ := h; simp; omega
    · simp [one, hx] at h; obtain ⟨_, rfl⟩ := h; simp

/-- does a set end here? -/
def endB (first : Bool) : List UInt8 → Bool
  | c :: _ => c == 93 && !first
  | [] => false

/-- a set's elements, up to its bracket: what is in it, and what is left. -/
def setLoop : Nat → Bool → (UInt8 → Bool) → List UInt8 → Option ((UInt8 → Bool) × List UInt8)
  | 0, _, _, _ => none
  | n + 1, first, acc, l =>
    if endB first l = true then some (acc, l.tail) else
    match one l with
    | none => none
    | some (low, r1) =>
      if ranged r1 = true then
        match one r1.tail with
        | none => none
        | some (high, r2) => setLoop n false (fun x => acc x || (decide (low.toNat ≤ x.toNat) && decide (x.toNat ≤ high.toNat))) r2
      else setLoop n false (fun x => acc x || (decide (low.toNat ≤ x.toNat) && decide (x.toNat ≤ low.toNat))) r1

/-- A token: any number of bytes, or one of a set. -/
structure Tok where
  many : Bool
  deep : Bool
  set : UInt8 → Bool

def negB : List UInt8 → Bool
  | c :: _ => c == 33 || c == 94
  | [] => false

def setP (l : List UInt8) : Option (Tok × List UInt8) :=
  match setLoop ((if negB l = true then l.tail else l).length + 1) true (fun _ => false) (if negB l = true then l.tail else l) with
  | none => none
  | some (acc, r) => some (⟨false, false, fun x => (acc x != negB l) && x != 47⟩, r)

def next : List UInt8 → Option (Tok × List UInt8)
  | [] => none
  | c :: r =>
    if c = 42 then
      (match r with
      | d :: r' => if d = 42 then some (⟨true, true, fun _ => false⟩, r') else some (⟨true, false, fun _ => false⟩, r)
      | [] => some (⟨true, false, fun _ => false⟩, r))
    else if c = 63 then some (⟨false, false, fun x => x != 47⟩, r)
    else if c = 91 then setP r
    else match one (c :: r) with
      | none => none
      | some (d, r') => some (⟨false, false, fun x => x == d⟩, r')

def parse : Nat → List UInt8 → Option (List Tok)
  | _, [] => some []
  | 0, _ :: _ => none
  | n + 1, c :: r =>
    match next (c :: r) with
    | none => none
    | some (t, r') => (parse n r').map (t :: ·)

/-- A pattern's tokens. -/
def toks (p : List UInt8) : Option (List Tok) := parse p.length p

/-- Which places of a name can be reached behind one token more. -/
def step (t : Tok) (name : List UInt8) (reached : Nat → Bool) : Nat → Bool
  | 0 => if t.many then reached 0 else false
  | i + 1 =>
    if t.many then reached (i + 1) || (step t name reached i && (t.deep || (name.getD i 0) != 47))
    else reached i && t.set (name.getD i 0)

def reach (name : List UInt8) : List Tok → (Nat → Bool) → (Nat → Bool)
  | [], f => f
  | t :: l, f => reach name l (step t name f)

def start : Nat → Bool := fun i => decide (i = 0)

/-- Do these tokens match all of a name? -/
def matchB (l : List Tok) (name : List UInt8) : Bool := reach name l start name.length

end Glb

namespace Glb

theorem parse_len : ∀ (n : Nat) (l : List UInt8) (ts : List Tok), parse n l = some ts → ts.length ≤ n := by
  intro n
  induction n with
  | zero => intro l ts h; cases l <;> simp [parse] at h; subst h; simp
  | succ n ih =>
    intro l ts h
    cases l with
    | nil => simp [parse] at h; subst h; simp
    | cons c r =>
      simp only [parse] at h
      split at h
      · cases h
      · rename_i t r' _
        obtain ⟨ts', h1, rfl⟩ := Option.map_eq_some_iff.1 h
        have := ih r' ts' h1
        simp; omega

/-- What Match answers: whether it matches; and the number of its error (0: none). -/
def mres (p s : List UInt8) : Bool × Nat :=
  if 120 < p.length then (false, 4) else if 120 < s.length then (false, 4) else
  match toks p with
  | none => (false, 3)
  | some l => (matchB l s, 0)

/-- What Quote answers. -/
def special (c : UInt8) : Bool := c == 42 || c == 63 || c == 91 || c == 92
def quote : List UInt8 → List UInt8
  | [] => []
  | c :: r => if special c then 92 :: c :: quote r else c :: quote r

theorem quote_append (a b : List UInt8) : quote (a ++ b) = quote a ++ quote b := by
  induction a with
  | nil => rfl
  | cons c r ih => simp only [List.cons_append, quote]; split <;> simp [ih]
theorem quote_len (a : List UInt8) : (quote a).length ≤ 2 * a.length := by
  induction a with
  | nil => simp [quote]
  | cons c r ih => simp only [quote]; split <;> simp <;> omega

end Glb
