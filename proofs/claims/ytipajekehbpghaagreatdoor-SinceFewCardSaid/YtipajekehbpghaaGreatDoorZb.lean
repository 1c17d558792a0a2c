/-
  Names and their parts, in plain words: no program in sight.
-/
import Derived.Test.YtipajekehbpghaaGreatDoorZa
import Derived.Lib.SplitLaws
import Derived.Lib.IndexBytes
import Derived.Lib.Join
import Derived.Test.YtipajekehbpghaaGreatDoorRows
set_option linter.unusedVariables false
set_option linter.unusedSimpArgs false

namespace Pth
abbrev Bs := List UInt8

/-- The pieces between slashes. -/
def split : Bs → List Bs
  | [] => [[]]
  | c :: r => if c = 47 then [] :: split r else (c :: (split r).headD []) :: (split r).tail
theorem split_cons (c : UInt8) (r : Bs) : split (c :: r) = if c = 47 then [] :: split r else (c :: (split r).headD []) :: (split r).tail := rfl
theorem split_ne (l : Bs) : split l ≠ [] := by
  cases l with
  | nil => simp [split]
  | cons c r =>
    rw [split_cons]
    by_cases h : c = 47
    · rw [if_pos h]; simp
    · rw [if_neg h]; simp
theorem split_app (a b : Bs) : split (a ++ 47 :: b) = split a ++ split b := by
  induction a with
  | nil => simp [split]
  | cons c r ih =>
    rw [List.cons_append, split_cons, split_cons, ih]
    by_cases h : c = 47
    · rw [if_pos h, if_pos h]; rfl
    · rw [if_neg h, if_neg h]
      cases e : split r with
      | nil => exact absurd e (split_ne r)
      | cons x y => rfl
theorem split_one {p : Bs} (h : (47 : UInt8) ∉ p) : split p = [p] := by
  induction p with
  | nil => rfl
  | cons c r ih =>
    rw [List.mem_cons, not_or] at h
    rw [split_cons, if_neg (fun e => h.1 e.symm), ih h.2]; rfl
theorem split_mem {l p : Bs} (h : p ∈ split l) : (47 : UInt8) ∉ p ∧ p.length ≤ l.length := by
  induction l generalizing p with
  | nil => simp [split] at h; subst h; simp
  | cons c r ih =>
    rw [split_cons] at h
    by_cases hc : c = 47
    · rw [if_pos hc, List.mem_cons] at h
      rcases h with rfl | h
      · simp
      · have := ih h
        exact ⟨this.1, by simp only [List.length_cons]; omega⟩
    · rw [if_neg hc, List.mem_cons] at h
      rcases h with rfl | h
      · cases e : split r with
        | nil => exact absurd e (split_ne r)
        | cons x y =>
          have := ih (p := x) (by rw [e]; simp)
          simp only [List.headD_cons, List.mem_cons, not_or, List.length_cons]
          exact ⟨⟨fun e => hc e.symm, this.1⟩, by omega⟩
      · have := ih (List.mem_of_mem_tail h)
        exact ⟨this.1, by simp only [List.length_cons]; omega⟩
theorem split_len (l : Bs) : (split l).length ≤ l.length + 1 := by
  induction l with
  | nil => simp [split]
  | cons c r ih =>
    rw [split_cons]
    by_cases h : c = 47
    · rw [if_pos h]; simp; omega
    · rw [if_neg h]; simp; omega

theorem lib_split (s : Bs) : Go.Lib.split s [47] = split s := by
  obtain ⟨n, hn⟩ : ∃ n, n = s.length := ⟨_, rfl⟩
  induction n using Nat.strongRecOn generalizing s with
  | _ n ih =>
    have hi := Go.Lib.index_one s 47
    have hge := Go.Lib.indexByte_ge s 47
    by_cases h : Go.Lib.indexByte s 47 = -1
    · rw [h] at hi
      unfold Go.Lib.split
      rw [Go.Lib.count_miss hi]
      have hno : (47 : UInt8) ∉ s := fun hm => by
        obtain ⟨k, hk⟩ := List.getElem?_of_mem hm
        exact Go.Lib.indexByte_none h k hk
      rw [split_one hno]; rfl
    · obtain ⟨i, e⟩ : ∃ i : Nat, Go.Lib.indexByte s 47 = i := ⟨(Go.Lib.indexByte s 47).toNat, by omega⟩
      rw [e] at hi
      obtain ⟨h1, h2⟩ := Go.Lib.indexByte_some e
      have hlt : i < s.length := by
        rcases Nat.lt_or_ge i s.length with hl | hl
        · exact hl
        · rw [List.getElem?_eq_none hl] at h1; cases h1
      have hs : s = s.take i ++ 47 :: s.drop (i + 1) := by
        have e2 : s[i] = 47 := by rw [List.getElem?_eq_getElem hlt] at h1; exact Option.some.inj h1
        rw [← e2, ← List.drop_eq_getElem_cons hlt, List.take_append_drop]
      have hno : (47 : UInt8) ∉ s.take i := fun hm => by
        obtain ⟨k, hk⟩ := List.getElem?_of_mem hm
        rw [List.getElem?_take] at hk
        split at hk
        · exact h2 k (by assumption) hk
        · cases hk
      have ih' := ih (s.drop (i + 1)).length (by rw [List.length_drop]; omega) (s.drop (i + 1)) rfl
      have hr : split s = s.take i :: split (s.drop (i + 1)) := by
        conv => lhs; rw [hs]
        rw [split_app, split_one hno]; rfl
      rw [hr, ← ih']
      unfold Go.Lib.split
      rw [Go.Lib.count_hit (by simp) hi, Nat.add_comm 1]
      simp only [Go.Lib.splitK, hi]
      rw [if_neg (by simp)]
      simp

/-- A part that stays. -/
def keep (p : Bs) : Bool := !(p == [] || p == [46])
def parts (l : Bs) : List Bs := (split l).filter keep
theorem parts_app (a b : Bs) : parts (a ++ 47 :: b) = parts a ++ parts b := by
  unfold parts; rw [split_app, List.filter_append]
theorem parts_nil : parts [] = [] := rfl

/-- A part as it may be: neither empty nor a point, with no slash. -/
def Ok (p : Bs) : Prop := p ≠ [] ∧ p ≠ [46] ∧ (47 : UInt8) ∉ p
theorem keep_iff (p : Bs) : keep p = true ↔ p ≠ [] ∧ p ≠ [46] := by simp [keep]
theorem ok_keep {p : Bs} (h : Ok p) : keep p = true := (keep_iff p).2 ⟨h.1, h.2.1⟩
theorem parts_ok {l p : Bs} (h : p ∈ parts l) : Ok p := by
  unfold parts at h
  rw [List.mem_filter] at h
  have := (keep_iff p).1 h.2
  exact ⟨this.1, this.2, (split_mem h.1).1⟩
theorem parts_one {p : Bs} (h : Ok p) : parts p = [p] := by
  unfold parts
  rw [split_one h.2.2, List.filter_cons_of_pos (ok_keep h)]; rfl
theorem parts_len (l : Bs) : (parts l).length ≤ l.length + 1 := Nat.le_trans (List.length_filter_le _ _) (split_len l)
theorem part_len {l p : Bs} (h : p ∈ parts l) : p.length ≤ l.length := by
  unfold parts at h
  exact (split_mem (List.mem_filter.1 h).1).2

/-- Parts, a slash between each two. -/
def join : List Bs → Bs
  | [] => []
  | [p] => p
  | p :: q :: r => p ++ 47 :: join (q :: r)
theorem join_cons (p : Bs) {r : List Bs} (h : r ≠ []) : join (p :: r) = p ++ 47 :: join r := by
  cases r with
  | nil => exact absurd rfl h
  | cons q r => rfl
theorem lib_join (ps : List Bs) : Go.Lib.join ps [47] = join ps := by
  induction ps with
  | nil => rfl
  | cons p r ih =>
    cases r with
    | nil => exact Go.Lib.join_one _ _
    | cons q r =>
      rw [Go.Lib.join_cons] at ih ⊢
      rw [join_cons p (by simp), ← ih]
      simp [Go.Lib.joinTail]
theorem join_app {a b : List Bs} (ha : a ≠ []) (hb : b ≠ []) : join (a ++ b) = join a ++ 47 :: join b := by
  induction a with
  | nil => exact absurd rfl ha
  | cons p r ih =>
    cases r with
    | nil => rw [List.singleton_append, join_cons p hb]; rfl
    | cons q r =>
      rw [List.cons_append, join_cons p (by simp), ih (by simp), join_cons p (by simp)]
      simp
theorem parts_join {ps : List Bs} (h : ∀ p ∈ ps, Ok p) : parts (join ps) = ps := by
  induction ps with
  | nil => rfl
  | cons p r ih =>
    cases r with
    | nil => exact parts_one (h p (by simp))
    | cons q r =>
      rw [join_cons p (by simp), parts_app, parts_one (h p (by simp)), ih (fun x hx => h x (by simp [hx]))]; rfl
theorem join_ne {ps : List Bs} (h : ∀ p ∈ ps, Ok p) (h0 : ps ≠ []) : join ps ≠ [] := by
  cases ps with
  | nil => exact absurd rfl h0
  | cons p r =>
    cases r with
    | nil => exact (h p (by simp)).1
    | cons q r => rw [join_cons p (by simp)]; simp
theorem join_len (ps : List Bs) : (join ps).length ≤ (ps.map (fun p => p.length + 1)).sum := by
  induction ps with
  | nil => simp [join]
  | cons p r ih =>
    cases r with
    | nil => simp [join]
    | cons q r => rw [join_cons p (by simp)]; simp at ih ⊢; omega
theorem split_sum (l : Bs) : ((split l).map (fun p => p.length + 1)).sum = l.length + 1 := by
  induction l with
  | nil => rfl
  | cons c r ih =>
    rw [split_cons]
    by_cases h : c = 47
    · rw [if_pos h]; simp; omega
    · rw [if_neg h]
      cases e : split r with
      | nil => exact absurd e (split_ne r)
      | cons x y => rw [e] at ih; simp at ih ⊢; omega
theorem filter_sum (ps : List Bs) (f : Bs → Bool) : ((ps.filter f).map (fun p => p.length + 1)).sum ≤ (ps.map (fun p => p.length + 1)).sum := by
  induction ps with
  | nil => simp
  | cons p r ih =>
    rw [List.filter_cons]
    split
    · simp only [List.map_cons, List.sum_cons]; omega
    · simp only [List.map_cons, List.sum_cons]; omega
theorem parts_sum (l : Bs) : ((parts l).map (fun p => p.length + 1)).sum ≤ l.length + 1 := by
  have := filter_sum (split l) keep
  rw [split_sum] at this; exact this

/-- '..' -/
abbrev dd : Bs := [46, 46]
def step (x : List Bs × Bool) (p : Bs) : List Bs × Bool := if p ≠ dd then (x.1 ++ [p], x.2) else if x.1 = [] then (x.1, false) else (x.1.dropLast, x.2)
def run (x : List Bs × Bool) (ps : List Bs) : List Bs × Bool := ps.foldl step x
def cleanP (l : Bs) : List Bs × Bool := run ([], true) (parts l)
def clean (l : Bs) : Bs := join (cleanP l).1
def cleanOk (l : Bs) : Bool := (cleanP l).2
theorem run_app (x : List Bs × Bool) (a b : List Bs) : run x (a ++ b) = run (run x a) b := by unfold run; rw [List.foldl_append]
theorem step_flag (L : List Bs) (ok : Bool) (p : Bs) : step (L, ok) p = ((step (L, true) p).1, ok && (step (L, true) p).2) := by
  unfold step
  by_cases h : p ≠ dd
  · simp [h]
  · by_cases h2 : L = []
    · simp [h, h2]
    · simp [h, h2]
theorem run_flag (ps : List Bs) : ∀ (L : List Bs) (ok : Bool), run (L, ok) ps = ((run (L, true) ps).1, ok && (run (L, true) ps).2) := by
  induction ps with
  | nil => intro L ok; simp [run]
  | cons p r ih =>
    intro L ok
    have e : ∀ x, run x (p :: r) = run (step x p) r := fun _ => rfl
    rw [e, e, step_flag]
    obtain ⟨M, b, hM⟩ : ∃ M b, step (L, true) p = (M, b) := ⟨_, _, rfl⟩
    rw [hM]
    show run (M, ok && b) r = _
    rw [ih M (ok && b), ih M b]
    simp [Bool.and_assoc]
theorem run_plain (ps : List Bs) : ∀ (L : List Bs) (ok : Bool), (∀ p ∈ ps, p ≠ dd) → run (L, ok) ps = (L ++ ps, ok) := by
  induction ps with
  | nil => intro L ok _; simp [run]
  | cons p r ih =>
    intro L ok h
    have e : run (L, ok) (p :: r) = run (step (L, ok) p) r := rfl
    rw [e]
    have : step (L, ok) p = (L ++ [p], ok) := by unfold step; rw [if_pos (h p (by simp))]
    rw [this, ih _ _ (fun q hq => h q (by simp [hq]))]; simp
/-- Parts of a clean name: no '..' among them. -/
def Cl (ps : List Bs) : Prop := ∀ p ∈ ps, Ok p ∧ p ≠ dd
theorem step_cl {x : List Bs × Bool} {p : Bs} (hx : Cl x.1) (hp : Ok p) : Cl (step x p).1 := by
  unfold step
  by_cases h : p ≠ dd
  · rw [if_pos h]
    intro q hq
    rcases List.mem_append.1 hq with hq | hq
    · exact hx q hq
    · rw [List.mem_singleton] at hq; subst hq; exact ⟨hp, h⟩
  · rw [if_neg h]
    split
    · exact hx
    · exact fun q hq => hx q ((List.dropLast_sublist _).subset hq)
theorem run_cl (ps : List Bs) : ∀ (x : List Bs × Bool), Cl x.1 → (∀ p ∈ ps, Ok p) → Cl (run x ps).1 := by
  induction ps with
  | nil => intro x hx _; exact hx
  | cons p r ih => intro x hx h; exact ih _ (step_cl hx (h p (by simp))) (fun q hq => h q (by simp [hq]))
theorem cleanP_cl (l : Bs) : Cl (cleanP l).1 := run_cl _ _ (fun _ h => by cases h) (fun _ h => parts_ok h)
theorem Cl.ok {ps : List Bs} (h : Cl ps) : ∀ p ∈ ps, Ok p := fun p hp => (h p hp).1
theorem cl_clean {L : List Bs} (h : Cl L) : cleanP (join L) = (L, true) := by
  unfold cleanP
  rw [parts_join h.ok, run_plain _ _ _ (fun p hp => (h p hp).2)]; rfl
theorem step_len (x : List Bs × Bool) (p : Bs) : ((step x p).1.map (fun p => p.length + 1)).sum ≤ (x.1.map (fun p => p.length + 1)).sum + (p.length + 1) := by
  unfold step
  split
  · simp
  · split
    · simp
    · have h : x.1.dropLast ++ [x.1.getLast (by assumption)] = x.1 := List.dropLast_concat_getLast _
      have e : (x.1.map (fun p => p.length + 1)).sum = (x.1.dropLast.map (fun p => p.length + 1)).sum + ([x.1.getLast (by assumption)].map (fun p => p.length + 1)).sum := by
        rw [← List.sum_append_nat, ← List.map_append, h]
      simp only; omega
theorem run_len (ps : List Bs) : ∀ x : List Bs × Bool, ((run x ps).1.map (fun p => p.length + 1)).sum ≤ (x.1.map (fun p => p.length + 1)).sum + (ps.map (fun p => p.length + 1)).sum := by
  induction ps with
  | nil => intro x; simp [run]
  | cons p r ih =>
    intro x
    have e : run x (p :: r) = run (step x p) r := rfl
    rw [e]
    have h1 := ih (step x p)
    have h2 := step_len x p
    simp only [List.map_cons, List.sum_cons]
    omega
theorem clean_len (l : Bs) : (clean l).length ≤ l.length + 1 := by
  unfold clean
  have h1 := join_len (cleanP l).1
  have h2 := run_len (parts l) ([], true)
  have h3 := parts_sum l
  have h4 : (cleanP l).1 = (run ([], true) (parts l)).1 := rfl
  rw [h4] at h1
  rw [h4]
  simp only [List.map_nil, List.sum_nil] at h2
  omega

/-- A valid name. -/
def right (l : Bs) : Bool := cleanOk l && clean l == l && !(l == []) && decide (l.length ≤ 120) && decide ((parts l).length ≤ 12) && !(l.contains 0)
theorem right_of {a : Bs} (h : right a = true) : ∃ L, Cl L ∧ L ≠ [] ∧ a = join L ∧ parts a = L ∧ a.length ≤ 120 ∧ L.length ≤ 12 ∧ a.contains 0 = false := by
  unfold right at h
  simp only [Bool.and_eq_true, beq_iff_eq, Bool.not_eq_true', decide_eq_true_eq, beq_eq_false_iff_ne] at h
  obtain ⟨⟨⟨⟨⟨h1, h2⟩, h3⟩, h4⟩, h5⟩, h6⟩ := h
  have hL := cleanP_cl a
  have e : parts a = (cleanP a).1 := by rw [← parts_join hL.ok]; congr 1; exact h2.symm
  refine ⟨(cleanP a).1, hL, fun e0 => h3 ?_, h2.symm, e, h4, by rw [← e]; exact h5, h6⟩
  rw [← h2]; unfold clean; rw [e0]; rfl
theorem right_mk {L : List Bs} (h : Cl L) (h0 : L ≠ []) (h1 : (join L).length ≤ 120) (h2 : L.length ≤ 12) (h3 : (join L).contains 0 = false) : right (join L) = true := by
  have hc := cl_clean h
  have e1 : cleanOk (join L) = true := by unfold cleanOk; rw [hc]
  have e2 : clean (join L) = join L := by unfold clean; rw [hc]
  unfold right
  rw [e1, e2, parts_join h.ok]
  have := join_ne h.ok h0
  simp [h1, h2, this]
  simpa using h3

/-! Once is enough. -/
theorem clean_once (a : Bs) : cleanOk (clean a) = true ∧ clean (clean a) = clean a := by
  have h := cl_clean (cleanP_cl a)
  unfold cleanOk clean
  rw [h]; exact ⟨rfl, rfl⟩
theorem clean_parts (a : Bs) : parts (clean a) = (cleanP a).1 := parts_join (cleanP_cl a).ok
theorem clean_on (a b : Bs) : clean (a ++ 47 :: b) = clean (clean a ++ 47 :: b) ∧ (cleanOk a = true → cleanOk (a ++ 47 :: b) = cleanOk (clean a ++ 47 :: b)) := by
  have e1 : cleanP (a ++ 47 :: b) = run (cleanP a) (parts b) := by
    unfold cleanP; rw [parts_app, run_app]
  have e2 : cleanP (clean a ++ 47 :: b) = run ((cleanP a).1, true) (parts b) := by
    unfold cleanP
    rw [parts_app, clean_parts, run_app, run_plain _ _ _ (fun p hp => (cleanP_cl a p hp).2)]; rfl
  have e3 := run_flag (parts b) (cleanP a).1 (cleanP a).2
  have e4 : run (cleanP a) (parts b) = ((run ((cleanP a).1, true) (parts b)).1, (cleanP a).2 && (run ((cleanP a).1, true) (parts b)).2) := e3
  unfold clean cleanOk
  rw [e1, e4]
  have e5 : cleanP (join (cleanP a).1 ++ 47 :: b) = run ((cleanP a).1, true) (parts b) := e2
  rw [e5]
  exact ⟨rfl, fun h => by rw [h]; rfl⟩

/-! Inside a directory. -/
def inn (a d : Bs) : Bool := d == [] || a == d || (d ++ [47]).isPrefixOf a
theorem inn_iff (a d : Bs) : inn a d = true ↔ d = [] ∨ a = d ∨ ∃ r, a = d ++ 47 :: r := by
  unfold inn
  simp only [Bool.or_eq_true, beq_iff_eq, List.isPrefixOf_iff_prefix, or_assoc]
  constructor
  · rintro (h | h | ⟨r, h⟩)
    · exact .inl h
    · exact .inr (.inl h)
    · exact .inr (.inr ⟨r, by rw [← h]; simp⟩)
  · rintro (h | h | ⟨r, h⟩)
    · exact .inl h
    · exact .inr (.inl h)
    · exact .inr (.inr ⟨r, by rw [h]; simp⟩)
theorem inn_trans {a b c : Bs} (h1 : inn a b = true) (h2 : inn b c = true) : inn a c = true := by
  rw [inn_iff] at *
  rcases h2 with rfl | rfl | ⟨r, rfl⟩
  · exact .inl rfl
  · exact h1
  · rcases h1 with h | rfl | ⟨q, rfl⟩
    · simp at h
    · exact .inr (.inr ⟨r, rfl⟩)
    · exact .inr (.inr ⟨r ++ 47 :: q, by simp⟩)
theorem inn_anti {a b : Bs} (ha : a ≠ []) (hb : b ≠ []) (h1 : inn a b = true) (h2 : inn b a = true) : a = b := by
  rw [inn_iff] at *
  rcases h1 with h | h | ⟨r, h⟩
  · exact absurd h hb
  · exact h
  · rcases h2 with h' | h' | ⟨q, h'⟩
    · exact absurd h' ha
    · exact h'.symm
    · have e1 := congrArg List.length h
      have e2 := congrArg List.length h'
      simp at e1 e2; omega
/-- For clean names: inside is a prefix of the parts. -/
theorem inn_parts {A D : List Bs} (hA : Cl A) (hD : Cl D) (h0 : D ≠ []) (hA0 : A ≠ []) : inn (join A) (join D) = true ↔ ∃ R, A = D ++ R := by
  rw [inn_iff]
  constructor
  · rintro (h | h | ⟨r, h⟩)
    · exact absurd h (join_ne hD.ok h0)
    · have := congrArg parts h
      rw [parts_join hA.ok, parts_join hD.ok] at this
      exact ⟨[], by rw [this]; simp⟩
    · have := congrArg parts h
      rw [parts_app, parts_join hA.ok, parts_join hD.ok] at this
      exact ⟨_, this⟩
  · rintro ⟨R, rfl⟩
    by_cases hR : R = []
    · subst hR; right; left; simp
    · right; right; exact ⟨join R, join_app h0 hR⟩

/-! The order of names. -/
/-- Bytes, one text against another: 0, -1 or 1. -/
def cmpB (a b : Bs) : Int := if a < b then -1 else if b < a then 1 else 0
def cmp : List Bs → List Bs → Int
  | [], [] => 0
  | [], _ :: _ => -1
  | _ :: _, [] => 1
  | a :: r, b :: q => if cmpB a b = 0 then cmp r q else cmpB a b
theorem lt_asymm' {a b : Bs} (h : a < b) : ¬ b < a := fun k => List.lt_irrefl a (List.lt_trans h k)
theorem lt_tri {a b : Bs} (h1 : ¬ a < b) (h2 : ¬ b < a) : a = b := List.le_antisymm h2 h1
theorem cmpB_zero (a b : Bs) : cmpB a b = 0 ↔ a = b := by
  unfold cmpB
  constructor
  · intro h
    split at h
    · omega
    · split at h
      · omega
      · exact lt_tri (by assumption) (by assumption)
  · rintro rfl; rw [if_neg (List.lt_irrefl a), if_neg (List.lt_irrefl a)]
theorem cmpB_neg (a b : Bs) : cmpB a b < 0 ↔ a < b := by
  unfold cmpB
  split
  · simp_all
  · split <;> simp_all
theorem cmpB_pos (a b : Bs) : 0 < cmpB a b ↔ b < a := by
  unfold cmpB
  split
  · have := lt_asymm' (by assumption : a < b); simp_all
  · split <;> simp_all
theorem cmp_anti : ∀ a b : List Bs, (cmp a b < 0 ↔ 0 < cmp b a)
  | [], [] => by simp [cmp]
  | [], _ :: _ => by simp [cmp]
  | _ :: _, [] => by simp [cmp]
  | a :: r, b :: q => by
    have ih := cmp_anti r q
    unfold cmp
    by_cases h : a = b
    · subst h; rw [if_pos ((cmpB_zero a a).2 rfl), if_pos ((cmpB_zero a a).2 rfl)]; exact ih
    · rw [if_neg (fun e => h ((cmpB_zero a b).1 e)), if_neg (fun e => h ((cmpB_zero b a).1 e).symm), cmpB_neg, cmpB_pos]
theorem cmp_zero : ∀ a b : List Bs, cmp a b = 0 ↔ a = b
  | [], [] => by simp [cmp]
  | [], _ :: _ => by simp [cmp]
  | _ :: _, [] => by simp [cmp]
  | a :: r, b :: q => by
    have ih := cmp_zero r q
    unfold cmp
    by_cases h : a = b
    · subst h; rw [if_pos ((cmpB_zero a a).2 rfl)]; simp [ih]
    · rw [if_neg (fun e => h ((cmpB_zero a b).1 e)), cmpB_zero]; simp [h]
theorem cmp_trans : ∀ a b c : List Bs, cmp a b < 0 → cmp b c < 0 → cmp a c < 0
  | [], [], _ => by simp [cmp]
  | _, _ :: _, [] => by simp [cmp]
  | _ :: _, [], _ => by simp [cmp]
  | [], _ :: _, _ :: _ => by simp [cmp]
  | a :: r, b :: q, c :: s => by
    have ih := cmp_trans r q s
    unfold cmp
    by_cases h : a = b
    · subst h
      rw [if_pos ((cmpB_zero a a).2 rfl)]
      intro h1
      by_cases h2 : a = c
      · subst h2; rw [if_pos ((cmpB_zero a a).2 rfl), if_pos ((cmpB_zero a a).2 rfl)]; exact fun h3 => ih h1 h3
      · rw [if_neg (fun e => h2 ((cmpB_zero a c).1 e)), if_neg (fun e => h2 ((cmpB_zero a c).1 e))]; exact id
    · rw [if_neg (fun e => h ((cmpB_zero a b).1 e)), cmpB_neg]
      intro h1
      by_cases h2 : b = c
      · subst h2; intro _; rw [if_neg (fun e => h ((cmpB_zero a b).1 e)), cmpB_neg]; exact h1
      · rw [if_neg (fun e => h2 ((cmpB_zero b c).1 e)), cmpB_neg]
        intro h3
        have h4 := List.lt_trans h1 h3
        rw [if_neg (fun e => List.lt_irrefl c (by rw [(cmpB_zero a c).1 e] at h4; exact h4)), cmpB_neg]; exact h4
theorem cmp_pre (A R : List Bs) (h : R ≠ []) : cmp A (A ++ R) < 0 := by
  induction A with
  | nil =>
    cases R with
    | nil => exact absurd rfl h
    | cons x y => simp [cmp]
  | cons a r ih => rw [List.cons_append]; unfold cmp; rw [if_pos ((cmpB_zero a a).2 rfl)]; exact ih
theorem cmp_mid : ∀ A B R : List Bs, cmp A B < 0 → cmp B (A ++ R) < 0 → ∃ Q, B = A ++ Q
  | [], B, _ => fun _ _ => ⟨B, rfl⟩
  | _ :: _, [], _ => fun h => by simp [cmp] at h
  | a :: r, b :: q, R => by
    have ih := cmp_mid r q R
    rw [List.cons_append]
    unfold cmp
    by_cases h : a = b
    · subst h
      rw [if_pos ((cmpB_zero a a).2 rfl), if_pos ((cmpB_zero a a).2 rfl)]
      intro h1 h2
      obtain ⟨Q, hQ⟩ := ih h1 h2
      exact ⟨Q, by rw [hQ]; rfl⟩
    · rw [if_neg (fun e => h ((cmpB_zero a b).1 e)), if_neg (fun e => h ((cmpB_zero b a).1 e).symm), cmpB_neg, cmpB_neg]
      exact fun h1 h2 => absurd h2 (lt_asymm' h1)

/-! The way from one name to another. -/
theorem run_up (n : Nat) : ∀ (L M : List Bs), M.length = n → run (L ++ M, true) (List.replicate n dd) = (L, true) := by
  induction n with
  | zero => intro L M h; rw [List.length_eq_zero_iff.1 h]; simp [run]
  | succ n ih =>
    intro L M h
    have hne : M ≠ [] := by intro e; rw [e] at h; simp at h
    have e : run (L ++ M, true) (List.replicate (n + 1) dd) = run (step (L ++ M, true) dd) (List.replicate n dd) := by rw [List.replicate_succ]; rfl
    rw [e]
    have h2 : step (L ++ M, true) dd = (L ++ M.dropLast, true) := by
      unfold step
      rw [if_neg (by simp), if_neg (by simp [hne])]
      show ((L ++ M).dropLast, true) = _
      rw [List.dropLast_append_of_ne_nil hne]
    rw [h2]
    exact ih L M.dropLast (by rw [List.length_dropLast]; omega)
/-- '../' n times. -/
def ups : Nat → Bs
  | 0 => []
  | n + 1 => 46 :: 46 :: 47 :: ups n
theorem ups_parts (n : Nat) (l : Bs) : parts (ups n ++ l) = List.replicate n dd ++ parts l := by
  induction n with
  | zero => rfl
  | succ n ih =>
    have e : ups (n + 1) ++ l = dd ++ 47 :: (ups n ++ l) := rfl
    rw [e, parts_app, ih, List.replicate_succ]; rfl
/-- The number of leading parts that two names have in common, the last parts apart. -/
def same : List Bs → List Bs → Nat
  | a :: x :: r, b :: y :: q => if a = b then same (x :: r) (y :: q) + 1 else 0
  | _, _ => 0
def away (a b : Bs) : Bs := if parts a = [] ∨ parts b = [] then [] else ups ((parts a).length - 1 - same (parts a) (parts b)) ++ join ((parts b).drop (same (parts a) (parts b)))
theorem same_lt : ∀ A B : List Bs, A ≠ [] → B ≠ [] → same A B < A.length ∧ same A B < B.length
  | [], _, h, _ => absurd rfl h
  | _ :: _, [], _, h => absurd rfl h
  | [_], _ :: _, _, _ => by simp [same]
  | _ :: _ :: _, [_], _, _ => by simp [same]
  | a :: x :: r, b :: y :: q, _, _ => by
    have ih := same_lt (x :: r) (y :: q) (by simp) (by simp)
    unfold same
    split
    · simp at ih ⊢; omega
    · simp
theorem same_take : ∀ A B : List Bs, A.take (same A B) = B.take (same A B)
  | [], B => by simp [same]
  | [_], B => by cases B <;> simp [same]
  | _ :: _ :: _, [] => by simp [same]
  | _ :: _ :: _, [_] => by simp [same]
  | a :: x :: r, b :: y :: q => by
    have ih := same_take (x :: r) (y :: q)
    unfold same
    split
    · rename_i h; subst h; rw [List.take_succ_cons, List.take_succ_cons, ih]
    · simp
/-- The directory of a name: all but the last part. -/
def upDir (L : List Bs) : Bs := join L.dropLast
theorem away_leads {A B : List Bs} (hA : Cl A) (hB : Cl B) (hA0 : A ≠ []) (hB0 : B ≠ []) :
    cleanP (join A.dropLast ++ 47 :: away (join A) (join B)) = (B, true) := by
  have h1 := same_lt A B hA0 hB0
  have h2 := same_take A B
  have hAd : Cl A.dropLast := fun p hp => hA p ((List.dropLast_sublist _).subset hp)
  have hBd : Cl (B.drop (same A B)) := fun p hp => hB p (List.mem_of_mem_drop hp)
  have e : away (join A) (join B) = ups (A.length - 1 - same A B) ++ join (B.drop (same A B)) := by
    unfold away
    rw [parts_join hA.ok, parts_join hB.ok, if_neg (by simp [hA0, hB0])]
  unfold cleanP
  rw [parts_app, e, ups_parts, parts_join hAd.ok, parts_join hBd.ok, run_app, run_plain _ _ _ (fun p hp => (hAd p hp).2), run_app]
  have e2 : ([] : List Bs) ++ A.dropLast = A.take (same A B) ++ A.dropLast.drop (same A B) := by
    rw [List.nil_append]
    have h3 : A.take (same A B) = A.dropLast.take (same A B) := by
      rw [List.dropLast_eq_take, List.take_take, Nat.min_eq_left (by omega)]
    rw [h3, List.take_append_drop]
  rw [e2, run_up _ _ _ (by rw [List.length_drop, List.length_dropLast]), run_plain _ _ _ (fun p hp => (hBd p hp).2), h2, List.take_append_drop]
/-- A link that 'away' gives does not begin with a slash. -/
theorem away_head {A B : List Bs} (hA : Cl A) (hB : Cl B) (hA0 : A ≠ []) (hB0 : B ≠ []) : ∀ r, away (join A) (join B) ≠ 47 :: r := by
  intro r
  have h1 := same_lt A B hA0 hB0
  unfold away
  rw [parts_join hA.ok, parts_join hB.ok, if_neg (by simp [hA0, hB0])]
  cases A.length - 1 - same A B with
  | succ n => simp [ups]
  | zero =>
    show join (B.drop (same A B)) ≠ _
    cases e : B.drop (same A B) with
    | nil => simp [join]
    | cons p q =>
      have hp : Ok p := (hB p (List.mem_of_mem_drop (by rw [e]; simp))).1
      have hf : ∀ t, p ++ t ≠ 47 :: r := by
        intro t
        cases p with
        | nil => exact absurd rfl hp.1
        | cons c d =>
          intro h
          simp at h
          exact hp.2.2 (by rw [h.1]; simp)
      cases q with
      | nil => have := hf []; rwa [List.append_nil] at this
      | cons x y => rw [join_cons p (by simp)]; exact hf _

/-! One name in two: at its last slash. -/
theorem join_last {L : List Bs} (h : L ≠ []) : join L = if L.dropLast = [] then L.getLast h else join L.dropLast ++ 47 :: L.getLast h := by
  have e := List.dropLast_concat_getLast h
  by_cases h0 : L.dropLast = []
  · rw [if_pos h0]
    rw [h0] at e
    conv => lhs; rw [← e]
    rfl
  · rw [if_neg h0]
    conv => lhs; rw [← e]
    rw [join_app h0 (by simp)]; rfl
end Pth

namespace Tre
open Pth

/-- A file. -/
structure Nd where
  kind : Nat
  mode : Int
  uid : Int
  gid : Int
  sec : Int
  nano : Int
  data : Bs
  link : Bs
  major : Int
  minor : Int
  deriving DecidableEq
/-- An action. -/
structure Deed where
  what : Int
  name : Bs
  to : Bs
  n : Int
  node : Nd

def zero : Nd := ⟨0, 0, 0, 0, 0, 0, [], [], 0, 0⟩
def stampR (s n : Int) : Bool := decide (-1099511627776 ≤ s) && decide (s ≤ 1099511627776) && decide (0 ≤ n) && decide (n < 1000000000)
def inR (n lo hi : Int) : Bool := decide (lo ≤ n) && decide (n ≤ hi)
/-- A valid file. -/
def rightN (n : Nd) : Bool :=
  (inR n.kind 48 54 && !(n.kind == 49)) &&
  (inR n.mode 0 4095 && inR n.uid 0 1099511627775 && inR n.gid 0 1099511627775 && stampR n.sec n.nano) &&
  (((!(n.link == [])) == (n.kind == 50)) && decide (n.link.length ≤ 120) && !(n.link.contains 0)) &&
  (inR n.major 0 2097151 && inR n.minor 0 2097151 && ((n.kind == 51 || n.kind == 52) || (n.major == 0 && n.minor == 0))) &&
  (if n.kind = 48 then decide (n.data.length ≤ 4000) else n.data == [])

structure T where
  ents : List (Bs × Nat)
  fl : Nat → Option Nd
  nx : Nat
def none_ : T := ⟨[], fun _ => none, 0⟩

def look (E : List (Bs × Nat)) (s : Bs) : Option Nat := (E.find? fun p => p.1 == s).map (·.2)
def T.file (t : T) (k : Nat) : Nd := (t.fl k).getD zero
def T.get (t : T) (s : Bs) : Option Nd := (look t.ents s).map t.file
def T.has (t : T) (s : Bs) : Bool := (look t.ents s).isSome
def T.isKind (t : T) (s : Bs) (k : Nat) : Bool := match t.get s with | some n => n.kind == k | none => false
def T.isDir (t : T) (s : Bs) : Bool := t.isKind s 53
def T.alike (t : T) (a b : Bs) : Bool := match look t.ents a, look t.ents b with | some i, some k => i == k | _, _ => false
def T.links (t : T) (s : Bs) : Nat := (t.ents.filter fun p => t.alike s p.1).length
def T.names (t : T) : List Bs := (t.ents.map (·.1)).mergeSort (fun a b => decide (cmp (parts a) (parts b) ≤ 0))
def T.inside (t : T) (s : Bs) : List Bs := t.names.filter fun x => inn x s

def pre (P : List Bs) (i : Nat) : Bs := join (P.take i)
def blocked (t : T) (P : List Bs) : Bool := (List.range P.length).any fun i => decide (1 ≤ i) && (t.has (pre P i) && !t.isDir (pre P i))
/-- The error of a new name (0: none), but for how many there are. -/
def room (t : T) (s : Bs) : Int :=
  if right s = false then 5 else if t.has s = true then 9 else if blocked t (parts s) = true then 6
  else if 2 ≤ (parts s).length ∧ t.has (pre (parts s) ((parts s).length - 1)) = false then 7 else 0
def space (t : T) (s : Bs) : Int := if room t s ≠ 0 then room t s else if 60 ≤ t.ents.length then 12 else 0
def upd {α : Type} (f : Nat → Option α) (k : Nat) (v : Option α) : Nat → Option α := fun i => if i = k then v else f i
def mv (a to x : Bs) : Bs := to ++ x.drop a.length
def ren (a to : Bs) (p : Bs × Nat) : Bs × Nat := if inn p.1 a = true then (mv a to p.1, p.2) else p

def create (t : T) (x : Deed) : T × Int :=
  if rightN x.node = false then (t, 1) else if space t x.name ≠ 0 then (t, space t x.name)
  else (⟨t.ents ++ [(x.name, t.nx + 1)], upd t.fl (t.nx + 1) (some x.node), t.nx + 1⟩, 0)
def again (t : T) (x : Deed) (i : Nat) : T × Int :=
  if t.isDir x.name = true then (t, 6) else if space t x.to ≠ 0 then (t, space t x.to)
  else (⟨t.ents ++ [(x.to, i)], t.fl, t.nx⟩, 0)
def remove (t : T) (x : Deed) (i : Nat) : T × Int :=
  if 1 < (t.inside x.name).length then (t, 6)
  else (⟨t.ents.filter fun p => !(p.1 == x.name), if t.links x.name = 1 then upd t.fl i none else t.fl, t.nx⟩, 0)
def move (t : T) (x : Deed) : T × Int :=
  if inn x.to x.name = true then (t, 11) else if room t x.to ≠ 0 then (t, room t x.to)
  else if (t.inside x.name).any (fun s => !right (mv x.name x.to s)) = true then (t, 5)
  else (⟨t.ents.map (ren x.name x.to), t.fl, t.nx⟩, 0)
def changed (n : Nd) (x : Deed) : Nd :=
  if x.what = 5 then { n with data := x.to } else if x.what = 6 then { n with mode := x.n }
  else if x.what = 7 then { n with uid := x.node.uid, gid := x.node.gid } else if x.what = 8 then { n with sec := x.node.sec, nano := x.node.nano } else n
def change (t : T) (x : Deed) (i : Nat) : T × Int :=
  if x.what = 5 ∧ (t.file i).kind ≠ 48 then (t, 6) else if x.what = 5 ∧ 4000 < x.to.length then (t, 4)
  else if rightN (changed (t.file i) x) = false then (t, 1) else (⟨t.ents, upd t.fl i (some (changed (t.file i) x)), t.nx⟩, 0)
/-- What an action does, and its error (0: none). -/
def act (t : T) (x : Deed) : T × Int :=
  if x.what = 1 then create t x else if x.what < 1 ∨ 8 < x.what then (t, 1)
  else match look t.ents x.name with
    | none => (t, 7)
    | some i => if x.what = 2 then again t x i else if x.what = 3 then remove t x i else if x.what = 4 then move t x else change t x i
def plant (l : List Deed) : T := l.foldl (fun t x => (act t x).1) none_

/-- The same contents. -/
def Same (t u : T) : Prop := t.ents.length = u.ents.length ∧ (∀ p ∈ t.ents, ∃ k, look u.ents p.1 = some k ∧ t.file p.2 = u.file k) ∧
  ∀ p ∈ t.ents, ∀ q ∈ t.ents, ∀ k l, look u.ents p.1 = some k → look u.ents q.1 = some l → (p.2 = q.2 ↔ k = l)

/-! Looking up. -/
theorem look_mem {E : List (Bs × Nat)} {s : Bs} {k : Nat} (h : look E s = some k) : (s, k) ∈ E := by
  unfold look at h
  obtain ⟨p, hp, rfl⟩ := Option.map_eq_some_iff.1 h
  have h1 := List.find?_some hp
  have h2 := List.mem_of_find?_eq_some hp
  have e : p.1 = s := by simpa using h1
  rw [← e]; exact h2
theorem look_none {E : List (Bs × Nat)} {s : Bs} : look E s = none ↔ ∀ p ∈ E, p.1 ≠ s := by
  unfold look
  rw [Option.map_eq_none_iff, List.find?_eq_none]
  simp
def Apart (E : List (Bs × Nat)) : Prop := E.Pairwise fun p q => p.1 ≠ q.1
theorem apart_eq {E : List (Bs × Nat)} (h : Apart E) {p q : Bs × Nat} (hp : p ∈ E) (hq : q ∈ E) (e : p.1 = q.1) : p = q := by
  induction E with
  | nil => cases hp
  | cons x E ih =>
    obtain ⟨h1, h2⟩ := List.pairwise_cons.1 h
    rcases List.mem_cons.1 hp with e1 | hp1
    · rcases List.mem_cons.1 hq with e2 | hq1
      · rw [e1, e2]
      · exact absurd (by rw [← e1]; exact e) (h1 q hq1)
    · rcases List.mem_cons.1 hq with e2 | hq1
      · exact absurd (by rw [← e2]; exact e.symm) (h1 p hp1)
      · exact ih h2 hp1 hq1
theorem look_of {E : List (Bs × Nat)} (h : Apart E) {p : Bs × Nat} (hp : p ∈ E) : look E p.1 = some p.2 := by
  cases hl : look E p.1 with
  | none => exact absurd rfl (look_none.1 hl p hp)
  | some k => rw [← apart_eq h (look_mem hl) hp rfl]
theorem look_perm {E F : List (Bs × Nat)} (h : Apart E) (hp : E.Perm F) (s : Bs) : look E s = look F s := by
  have hF : Apart F := (hp.pairwise_iff (fun h e => h e.symm)).1 h
  cases hl : look E s with
  | none => exact (look_none.2 fun p hp' => look_none.1 hl p (hp.mem_iff.2 hp')).symm
  | some k => exact (look_of hF (hp.mem_iff.1 (look_mem hl))).symm
theorem look_snoc (E : List (Bs × Nat)) (s x : Bs) (k : Nat) : look (E ++ [(s, k)]) x = if (look E x).isSome then look E x else if x = s then some k else none := by
  unfold look
  rw [List.find?_append]
  cases h : E.find? (fun p => p.1 == x) with
  | some p => simp
  | none =>
    by_cases e : x = s
    · subst e; simp
    · have : ¬ s = x := fun e' => e e'.symm
      simp [this, e]
theorem has_iff {t : T} {s : Bs} : t.has s = true ↔ ∃ k, (s, k) ∈ t.ents := by
  unfold T.has
  constructor
  · intro h
    obtain ⟨k, hk⟩ := Option.isSome_iff_exists.1 h
    exact ⟨k, look_mem hk⟩
  · rintro ⟨k, hk⟩
    cases hl : look t.ents s with
    | none => exact absurd rfl (look_none.1 hl _ hk)
    | some _ => rfl
theorem isKind_iff {t : T} {s : Bs} {c : Nat} : t.isKind s c = true ↔ ∃ k, look t.ents s = some k ∧ (t.file k).kind = c := by
  unfold T.isKind T.get
  cases h : look t.ents s with
  | none => simp
  | some k => simp
theorem isDir_iff {t : T} {s : Bs} : t.isDir s = true ↔ ∃ k, look t.ents s = some k ∧ (t.file k).kind = 53 := isKind_iff
theorem isDir_has {t : T} {s : Bs} (h : t.isDir s = true) : t.has s = true := by
  obtain ⟨k, hk, _⟩ := isDir_iff.1 h
  unfold T.has; rw [hk]; rfl

/-! Names. -/
theorem right_join {s : Bs} (h : right s = true) : join (parts s) = s := by
  obtain ⟨L, hL, _, rfl, e, _⟩ := right_of h
  rw [e]
theorem right_cl {s : Bs} (h : right s = true) : Cl (parts s) ∧ parts s ≠ [] := by
  obtain ⟨L, hL, h0, rfl, e, _⟩ := right_of h
  rw [e]; exact ⟨hL, h0⟩
theorem right_len {s : Bs} (h : right s = true) : s.length ≤ 120 ∧ (parts s).length ≤ 12 := by
  obtain ⟨L, hL, h0, rfl, e, h1, h2, _⟩ := right_of h
  rw [e]; exact ⟨h1, h2⟩
theorem right_ne {s : Bs} (h : right s = true) : s ≠ [] := by
  obtain ⟨L, hL, h0, rfl, e, h1, h2, _⟩ := right_of h
  exact join_ne hL.ok h0
theorem right_pos {s : Bs} (h : right s = true) : 0 < (parts s).length := List.length_pos_iff.2 (right_cl h).2
theorem cl_take {P : List Bs} (h : Cl P) (i : Nat) : Cl (P.take i) := fun p hp => h p (List.mem_of_mem_take hp)
theorem cl_drop {P : List Bs} (h : Cl P) (i : Nat) : Cl (P.drop i) := fun p hp => h p (List.mem_of_mem_drop hp)
theorem cl_app {P Q : List Bs} (h : Cl P) (h' : Cl Q) : Cl (P ++ Q) := fun p hp => (List.mem_append.1 hp).elim (h p) (h' p)
theorem parts_pre {P : List Bs} (h : Cl P) (i : Nat) : parts (pre P i) = P.take i := parts_join (cl_take h i).ok
theorem pre_pre {P : List Bs} (h : Cl P) (i j : Nat) (hij : i ≤ j) : pre (parts (pre P j)) i = pre P i := by
  rw [parts_pre h, pre, pre, List.take_take, Nat.min_eq_left hij]
theorem pre_len {P : List Bs} : pre P P.length = join P := by rw [pre, List.take_of_length_le (Nat.le_refl _)]
theorem inn_pre {P : List Bs} (h : Cl P) {i : Nat} (h1 : 1 ≤ i) (h2 : i ≤ P.length) : inn (join P) (pre P i) = true := by
  unfold pre
  have h0 : P ≠ [] := List.ne_nil_of_length_pos (by omega)
  rw [inn_parts h (cl_take h i) (List.ne_nil_of_length_pos (by rw [List.length_take]; omega)) h0]
  exact ⟨P.drop i, (List.take_append_drop i P).symm⟩
theorem inn_right {s d : Bs} (hs : right s = true) (hd : right d = true) : inn s d = true ↔ ∃ i, 1 ≤ i ∧ i ≤ (parts s).length ∧ d = pre (parts s) i := by
  have e1 := right_join hs
  have e2 := right_join hd
  obtain ⟨c1, n1⟩ := right_cl hs
  obtain ⟨c2, n2⟩ := right_cl hd
  constructor
  · intro h
    rw [← e1, ← e2, inn_parts c1 c2 n2 n1] at h
    obtain ⟨R, hR⟩ := h
    refine ⟨(parts d).length, right_pos hd, by rw [hR]; simp, ?_⟩
    rw [pre, hR, List.take_left, e2]
  · rintro ⟨i, h1, h2, rfl⟩
    have := inn_pre c1 h1 h2
    rwa [e1] at this
theorem inn_self (s : Bs) : inn s s = true := (inn_iff s s).2 (.inr (.inl rfl))
theorem parts_inj {s d : Bs} (hs : right s = true) (hd : right d = true) (e : parts s = parts d) : s = d := by
  rw [← right_join hs, ← right_join hd, e]
/-- A name inside another one, moved. -/
theorem mv_join {A R B : List Bs} (hA : A ≠ []) (hB : B ≠ []) : mv (join A) (join B) (join (A ++ R)) = join (B ++ R) := by
  unfold mv
  by_cases hR : R = []
  · subst hR; simp
  · rw [join_app hA hR, join_app hB hR, List.drop_left]
theorem inn_split {s d : Bs} (hs : right s = true) (hd : right d = true) (h : inn s d = true) : ∃ R, parts s = parts d ++ R := by
  rw [← right_join hs, ← right_join hd, inn_parts (right_cl hs).1 (right_cl hd).1 (right_cl hd).2 (right_cl hs).2] at h
  exact h

/-! What always stands. -/
structure Std (t : T) : Prop where
  nd : Apart t.ents
  ok : ∀ p ∈ t.ents, right p.1 = true ∧ p.2 ≤ t.nx ∧ ∃ n, t.fl p.2 = some n ∧ rightN n = true
  up : ∀ p ∈ t.ents, ∀ i, 1 ≤ i → i < (parts p.1).length → t.isDir (pre (parts p.1) i) = true
  fr : ∀ k n, t.fl k = some n → k ≤ t.nx
  cn : t.ents.length ≤ 60

theorem Std.none_ : Std none_ := ⟨List.Pairwise.nil, fun p h => (by cases h), fun p h => (by cases h), fun k n h => (by cases h), Nat.zero_le _⟩
theorem room_zero {t : T} {s : Bs} (h : room t s = 0) : right s = true ∧ t.has s = false ∧ blocked t (parts s) = false ∧ (2 ≤ (parts s).length → t.has (pre (parts s) ((parts s).length - 1)) = true) := by
  unfold room at h
  split at h
  · cases h
  · split at h
    · cases h
    · split at h
      · cases h
      · split at h
        · cases h
        · rename_i h1 h2 h3 h4
          refine ⟨by simpa using h1, by simpa using h2, by simpa using h3, fun h5 => ?_⟩
          cases h6 : t.has (pre (parts s) ((parts s).length - 1))
          · exact absurd ⟨h5, h6⟩ h4
          · rfl
theorem not_blocked {t : T} {P : List Bs} (h : blocked t P = false) {i : Nat} (h1 : 1 ≤ i) (h2 : i < P.length) (h3 : t.has (pre P i) = true) : t.isDir (pre P i) = true := by
  unfold blocked at h
  rw [List.any_eq_false] at h
  have := h i (List.mem_range.2 h2)
  simp [h1, h3] at this
  exact this
/-- Where a new name may stand, all its directories stand. -/
theorem room_dirs {t : T} (ht : Std t) {s : Bs} (h : room t s = 0) {i : Nat} (h1 : 1 ≤ i) (h2 : i < (parts s).length) : t.isDir (pre (parts s) i) = true := by
  obtain ⟨hr, hh, hb, hu⟩ := room_zero h
  obtain ⟨hc, _⟩ := right_cl hr
  have hhas := hu (by omega)
  have hd := not_blocked hb (i := (parts s).length - 1) (by omega) (by omega) hhas
  by_cases hi : i = (parts s).length - 1
  · rw [hi]; exact hd
  · obtain ⟨k, hk⟩ := has_iff.1 hhas
    have := ht.up _ hk i h1 (by rw [parts_pre hc, List.length_take]; omega)
    rw [pre_pre hc i _ (by omega)] at this
    exact this
theorem room_fresh {t : T} (ht : Std t) {s : Bs} (h : room t s = 0) : ∀ p ∈ t.ents, inn p.1 s = false := fun p hp => by
  obtain ⟨hr, hh, _⟩ := room_zero h
  cases hi : inn p.1 s with
  | false => rfl
  | true =>
    obtain ⟨i, h1, h2, e⟩ := (inn_right (ht.ok p hp).1 hr).1 hi
    have hhas : t.has s = true := by
      by_cases hl : i < (parts p.1).length
      · rw [e]; exact isDir_has (ht.up p hp i h1 hl)
      · have : i = (parts p.1).length := by omega
        rw [this, pre_len, right_join (ht.ok p hp).1] at e
        exact has_iff.2 ⟨p.2, by rw [e]; exact hp⟩
    rw [hh] at hhas; cases hhas
theorem space_zero {t : T} {s : Bs} (h : space t s = 0) : room t s = 0 ∧ t.ents.length < 60 := by
  unfold space at h
  split at h
  · contradiction
  · split at h
    · cases h
    · rename_i h1 h2; exact ⟨by simpa using h1, by omega⟩

theorem Std.add {t : T} (ht : Std t) {s : Bs} {k nx : Nat} {fl : Nat → Option Nd} (hs : space t s = 0) (hn : t.nx ≤ nx) (hk : k ≤ nx) (hf : ∀ i, i ≤ t.nx → fl i = t.fl i) (hfr : ∀ i n, fl i = some n → i ≤ nx)
    (hok : ∃ n, fl k = some n ∧ rightN n = true) : Std ⟨t.ents ++ [(s, k)], fl, nx⟩ := by
  obtain ⟨hr, hc⟩ := space_zero hs
  obtain ⟨r1, r2, r3, r4⟩ := room_zero hr
  have hnone : look t.ents s = none := by unfold T.has at r2; simpa using r2
  have hdir : ∀ x, t.isDir x = true → T.isDir ⟨t.ents ++ [(s, k)], fl, nx⟩ x = true := fun x hx => by
    obtain ⟨j, hj, hd⟩ := isDir_iff.1 hx
    refine isDir_iff.2 ⟨j, by simp only; rw [look_snoc, hj]; rfl, ?_⟩
    have := (ht.ok _ (look_mem hj)).2.1
    unfold T.file at hd ⊢
    simp only
    rw [hf j this]; exact hd
  refine ⟨?_, fun p hp => ?_, fun p hp i h1 h2 => ?_, hfr, by simp; omega⟩
  · refine List.pairwise_append.2 ⟨ht.nd, List.pairwise_singleton _ _, fun p hp q hq => ?_⟩
    obtain rfl : q = (s, k) := by simpa using hq
    exact look_none.1 hnone p hp
  · rcases List.mem_append.1 hp with hp | hp
    · obtain ⟨a, b, n, c, d⟩ := ht.ok p hp
      exact ⟨a, Nat.le_trans b hn, n, (hf _ b).trans c, d⟩
    · obtain rfl : p = (s, k) := by simpa using hp
      exact ⟨r1, hk, hok⟩
  · rcases List.mem_append.1 hp with hp | hp
    · exact hdir _ (ht.up p hp i h1 h2)
    · obtain rfl : p = (s, k) := by simpa using hp
      exact hdir _ (room_dirs ht hr h1 h2)

theorem Std.create {t : T} (ht : Std t) (x : Deed) : Std (create t x).1 := by
  unfold Tre.create
  split
  · exact ht
  · split
    · exact ht
    · rename_i h1 h2
      refine ht.add (by simpa using h2) (Nat.le_succ _) (Nat.le_refl _) (fun i hi => ?_) (fun i n hi => ?_) ⟨x.node, ?_, by simpa using h1⟩
      · unfold upd; rw [if_neg (by omega)]
      · unfold upd at hi; split at hi
        · omega
        · have := ht.fr i n hi; omega
      · unfold upd; rw [if_pos rfl]
theorem Std.again {t : T} (ht : Std t) (x : Deed) {i : Nat} (hi : look t.ents x.name = some i) : Std (again t x i).1 := by
  unfold Tre.again
  split
  · exact ht
  · split
    · exact ht
    · rename_i h1 h2
      obtain ⟨_, a, b⟩ := ht.ok _ (look_mem hi)
      exact ht.add (by simpa using h2) (Nat.le_refl _) a (fun i hi => rfl) ht.fr b

/-! Names in their order. -/
theorem names_perm (t : T) : t.names.Perm (t.ents.map (·.1)) := List.mergeSort_perm _ _
theorem names_mem {t : T} {s : Bs} : s ∈ t.names ↔ t.has s = true := by
  rw [(names_perm t).mem_iff, has_iff, List.mem_map]
  constructor
  · rintro ⟨p, hp, rfl⟩; exact ⟨p.2, hp⟩
  · rintro ⟨k, hk⟩; exact ⟨_, hk, rfl⟩
theorem cmp_le_trans (a b c : List Bs) (h1 : cmp a b ≤ 0) (h2 : cmp b c ≤ 0) : cmp a c ≤ 0 := by
  rcases Int.lt_or_eq_of_le h1 with h1 | h1
  · rcases Int.lt_or_eq_of_le h2 with h2 | h2
    · exact Int.le_of_lt (cmp_trans a b c h1 h2)
    · rw [(cmp_zero b c).1 h2] at h1; exact Int.le_of_lt h1
  · rw [(cmp_zero a b).1 h1]; exact h2
theorem cmp_total (a b : List Bs) : cmp a b ≤ 0 ∨ cmp b a ≤ 0 := by
  rcases Int.lt_or_le 0 (cmp a b) with h | h
  · exact .inr (Int.le_of_lt ((cmp_anti b a).2 h))
  · exact .inl h
theorem names_sorted (t : T) : t.names.Pairwise fun a b => cmp (parts a) (parts b) ≤ 0 := by
  have := List.pairwise_mergeSort (le := fun a b => decide (cmp (parts a) (parts b) ≤ 0)) (fun a b c h1 h2 => by
    simp only [decide_eq_true_eq] at *
    exact cmp_le_trans _ _ _ h1 h2) (fun a b => by
    simp only [Bool.or_eq_true, decide_eq_true_eq]
    exact cmp_total _ _) (t.ents.map (·.1))
  exact this.imp fun h => by simpa using h
theorem eq_names {t : T} (ht : Std t) {L : List Bs} (hp : L.Perm (t.ents.map (·.1))) (hs : L.Pairwise fun a b => cmp (parts a) (parts b) ≤ 0) : L = t.names := by
  have hr : ∀ a ∈ L, right a = true := fun a ha => by
    obtain ⟨p, hp', rfl⟩ := List.mem_map.1 (hp.mem_iff.1 ha)
    exact (ht.ok p hp').1
  refine (hp.trans (names_perm t).symm).eq_of_pairwise (le := fun a b => cmp (parts a) (parts b) ≤ 0) (fun a b ha hb h1 h2 => ?_) hs (names_sorted t)
  have hb' : right b = true := hr b ((hp.trans (names_perm t).symm).mem_iff.2 hb)
  refine parts_inj (hr a ha) hb' ((cmp_zero _ _).1 ?_)
  rcases Int.lt_or_eq_of_le h1 with h | h
  · have := (cmp_anti _ _).1 h; omega
  · exact h
theorem inside_mem {t : T} {s x : Bs} : x ∈ t.inside s ↔ t.has x = true ∧ inn x s = true := by
  unfold T.inside
  rw [List.mem_filter, names_mem]
theorem names_nodup {t : T} (ht : Apart t.ents) : t.names.Nodup := by
  rw [(names_perm t).nodup_iff, List.nodup_iff_pairwise_ne, List.pairwise_map]
  exact ht
/-- A name under which nothing lies. -/
theorem alone {t : T} (ht : Std t) {a : Bs} (ha : t.has a = true) : (t.inside a).length ≤ 1 ↔ ∀ p ∈ t.ents, inn p.1 a = true → p.1 = a := by
  have hnd : (t.inside a).Nodup := (names_nodup ht.nd).filter _
  have hm : a ∈ t.inside a := inside_mem.2 ⟨ha, inn_self a⟩
  constructor
  · intro h p hp hi
    have hx : p.1 ∈ t.inside a := inside_mem.2 ⟨has_iff.2 ⟨p.2, hp⟩, hi⟩
    match hl : t.inside a, h with
    | [], _ => rw [hl] at hm; cases hm
    | [y], _ =>
      rw [hl] at hm hx
      rw [List.mem_singleton.1 hx, List.mem_singleton.1 hm]
    | y :: z :: r, h => simp at h
  · intro h
    match hl : t.inside a with
    | [] => simp
    | [y] => simp
    | y :: z :: r =>
      exfalso
      rw [hl] at hnd
      have hy : ∀ q ∈ t.inside a, q = a := fun q hq => by
        obtain ⟨h1, h2⟩ := inside_mem.1 hq
        obtain ⟨k, hk⟩ := has_iff.1 h1
        exact h _ hk h2
      have e1 := hy y (by rw [hl]; simp)
      have e2 := hy z (by rw [hl]; simp)
      subst e1; subst e2
      simp at hnd

end Tre

namespace Tre
open Pth

theorem pre_ne {P : List Bs} (h : Cl P) {i : Nat} (h1 : 1 ≤ i) (h2 : i ≤ P.length) : pre P i ≠ [] :=
  join_ne (cl_take h i).ok (List.ne_nil_of_length_pos (by rw [List.length_take]; omega))
/-! Taking away. -/
theorem look_filter (E : List (Bs × Nat)) (s x : Bs) (h : x ≠ s) : look (E.filter fun p => !(p.1 == s)) x = look E x := by
  induction E with
  | nil => rfl
  | cons p E ih =>
    by_cases e : p.1 = s
    · have e2 : p.1 ≠ x := fun e' => h (by rw [← e', e])
      rw [List.filter_cons_of_neg (by simp [e]), ih]
      unfold look
      rw [List.find?_cons_of_neg (by simpa using e2)]
    · rw [List.filter_cons_of_pos (by simp [e])]
      unfold look at ih ⊢
      by_cases e2 : p.1 = x
      · rw [List.find?_cons_of_pos (by simpa using e2), List.find?_cons_of_pos (by simpa using e2)]
      · rw [List.find?_cons_of_neg (by simpa using e2), List.find?_cons_of_neg (by simpa using e2)]
        exact ih
theorem look_filter_self (E : List (Bs × Nat)) (s : Bs) : look (E.filter fun p => !(p.1 == s)) s = none := by
  rw [look_none]
  intro p hp
  have := (List.mem_filter.1 hp).2
  simpa using this
theorem alike_of {t : T} {a b : Bs} {i k : Nat} (ha : look t.ents a = some i) (hb : look t.ents b = some k) : t.alike a b = (i == k) := by
  unfold T.alike; rw [ha, hb]
theorem links_of {t : T} (ht : Apart t.ents) {a : Bs} {i : Nat} (ha : look t.ents a = some i) : t.links a = (t.ents.filter fun p => p.2 == i).length := by
  unfold T.links
  congr 1
  refine List.filter_congr fun p hp => ?_
  rw [alike_of ha (look_of ht hp)]
  by_cases e : i = p.2
  · subst e; rfl
  · have e1 : (i == p.2) = false := beq_eq_false_iff_ne.2 e
    have e2 : (p.2 == i) = false := beq_eq_false_iff_ne.2 fun e' => e e'.symm
    rw [e1, e2]
/-- Two names of a file count. -/
theorem two_links {t : T} (ht : Apart t.ents) {a b : Bs} {i : Nat} (ha : (a, i) ∈ t.ents) (hb : (b, i) ∈ t.ents) (hne : a ≠ b) : t.links a ≠ 1 := by
  rw [links_of ht (look_of ht ha)]
  intro h
  have h1 : (a, i) ∈ t.ents.filter fun p => p.2 == i := List.mem_filter.2 ⟨ha, by simp⟩
  have h2 : (b, i) ∈ t.ents.filter fun p => p.2 == i := List.mem_filter.2 ⟨hb, by simp⟩
  obtain ⟨y, hl⟩ := List.length_eq_one_iff.1 h
  rw [hl] at h1 h2
  have := (List.mem_singleton.1 h1).trans (List.mem_singleton.1 h2).symm
  exact hne (by injection this)
theorem links_pos {t : T} (ht : Apart t.ents) {a : Bs} {i : Nat} (ha : (a, i) ∈ t.ents) : 1 ≤ t.links a := by
  rw [links_of ht (look_of ht ha)]
  exact List.length_pos_of_mem (a := (a, i)) (List.mem_filter.2 ⟨ha, by simp⟩)
theorem remove_file {t : T} (ht : Apart t.ents) {a : Bs} {i : Nat} (ha : look t.ents a = some i) {q : Bs × Nat} (hq : q ∈ t.ents) (hne : q.1 ≠ a) :
    (if t.links a = 1 then upd t.fl i none else t.fl) q.2 = t.fl q.2 := by
  split
  · unfold upd
    split
    · rename_i h1 h2
      refine absurd h1 (two_links ht (look_mem ha) (b := q.1) ?_ hne.symm)
      rw [← h2]; exact hq
    · rfl
  · rfl
theorem Std.remove {t : T} (ht : Std t) (x : Deed) {i : Nat} (hi : look t.ents x.name = some i) : Std (remove t x i).1 := by
  unfold Tre.remove
  split
  · exact ht
  · rename_i h1
    have ha : t.has x.name = true := has_iff.2 ⟨i, look_mem hi⟩
    have hal := (alone ht ha).1 (by omega)
    refine ⟨ht.nd.filter _, fun p hp => ?_, fun p hp j h1 h2 => ?_, fun k n hk => ?_, Nat.le_trans (List.length_filter_le _ _) ht.cn⟩
    · obtain ⟨hp1, hp2⟩ := List.mem_filter.1 hp
      obtain ⟨a, b, n, c, d⟩ := ht.ok p hp1
      exact ⟨a, b, n, (remove_file ht.nd hi hp1 (by simpa using hp2)).trans c, d⟩
    · obtain ⟨hp1, hp2⟩ := List.mem_filter.1 hp
      have hr := (ht.ok p hp1).1
      obtain ⟨k, hk, hd⟩ := isDir_iff.1 (ht.up p hp1 j h1 h2)
      have hne : pre (parts p.1) j ≠ x.name := fun e => by
        have := hal p hp1 (by
          have h3 := inn_pre (right_cl hr).1 h1 (Nat.le_of_lt h2)
          rw [right_join hr, e] at h3
          exact h3)
        simp [this] at hp2
      refine isDir_iff.2 ⟨k, ?_, ?_⟩
      · rw [← hk]; exact look_filter _ _ _ hne
      · unfold T.file at hd ⊢
        simp only
        rw [show (if t.links x.name = 1 then upd t.fl i none else t.fl) k = t.fl k from remove_file ht.nd hi (look_mem hk) hne]
        exact hd
    · simp only at hk
      split at hk
      · unfold upd at hk
        split at hk
        · cases hk
        · exact ht.fr k n hk
      · exact ht.fr k n hk

/-! Changing. -/
theorem changed_kind (n : Nd) (x : Deed) : (changed n x).kind = n.kind := by
  unfold changed
  split
  · rfl
  · split
    · rfl
    · split
      · rfl
      · split <;> rfl
theorem Std.upd {t : T} (ht : Std t) {i : Nat} (hi : i ≤ t.nx) {m : Nd} (hm : rightN m = true) (hk : m.kind = (t.file i).kind) : Std ⟨t.ents, upd t.fl i (some m), t.nx⟩ := by
  have hdir : ∀ s, t.isDir s = true → T.isDir ⟨t.ents, Tre.upd t.fl i (some m), t.nx⟩ s = true := fun s h => by
    obtain ⟨k, hk1, hk2⟩ := isDir_iff.1 h
    refine isDir_iff.2 ⟨k, hk1, ?_⟩
    unfold T.file Tre.upd
    simp only
    by_cases e : k = i
    · subst e; rw [if_pos rfl]; simpa [hk] using hk2
    · rw [if_neg e]; exact hk2
  refine ⟨ht.nd, fun p hp => ?_, fun p hp j h1 h2 => hdir _ (ht.up p hp j h1 h2), fun k n h => ?_, ht.cn⟩
  · obtain ⟨a, b, n, c, d⟩ := ht.ok p hp
    by_cases e : p.2 = i
    · exact ⟨a, b, m, by simp only [Tre.upd]; rw [if_pos e], hm⟩
    · exact ⟨a, b, n, by simp only [Tre.upd]; rw [if_neg e]; exact c, d⟩
  · simp only [Tre.upd] at h
    split at h
    · rename_i e; rw [e]; exact hi
    · exact ht.fr k n h
theorem Std.change {t : T} (ht : Std t) (x : Deed) {i : Nat} (hi : look t.ents x.name = some i) : Std (change t x i).1 := by
  unfold Tre.change
  split
  · exact ht
  · split
    · exact ht
    · split
      · exact ht
      · rename_i h
        exact ht.upd (ht.ok _ (look_mem hi)).2.1 (by simpa using h) (changed_kind _ _)

/-! Moving. -/
theorem ren_in {a to : Bs} {p : Bs × Nat} (h : inn p.1 a = true) : ren a to p = (mv a to p.1, p.2) := if_pos h
theorem ren_out {a to : Bs} {p : Bs × Nat} (h : inn p.1 a = false) : ren a to p = p := if_neg (by simp [h])
theorem ren_snd (a to : Bs) (p : Bs × Nat) : (ren a to p).2 = p.2 := by unfold ren; split <;> rfl
theorem mv_inn (a to x : Bs) (h : inn x a = true) (ha : a ≠ []) : inn (mv a to x) to = true := by
  rw [inn_iff] at *
  rcases h with h | rfl | ⟨r, rfl⟩
  · exact absurd h ha
  · right; left; simp [mv]
  · right; right; exact ⟨r, by simp [mv]⟩
theorem mv_back (a to x : Bs) (h : inn x a = true) (ha : a ≠ []) : mv to a (mv a to x) = x := by
  rw [inn_iff] at h
  rcases h with h | rfl | ⟨r, rfl⟩
  · exact absurd h ha
  · simp [mv]
  · simp [mv]
theorem mv_self (a to : Bs) : mv a to a = to := by simp [mv]
structure Moves (t : T) (a to : Bs) : Prop where
  st : Std t
  ra : right a = true
  cy : inn to a = false
  rm : room t to = 0
  nw : ∀ p ∈ t.ents, inn p.1 a = true → right (mv a to p.1) = true
theorem Moves.fresh {t : T} {a to : Bs} (h : Moves t a to) : ∀ p ∈ t.ents, inn p.1 to = false := room_fresh h.st h.rm
theorem Moves.apart {t : T} {a to : Bs} (h : Moves t a to) : Apart (t.ents.map (ren a to)) := by
  unfold Apart
  rw [List.pairwise_map]
  have ha := right_ne h.ra
  refine h.st.nd.imp_of_mem fun {p q} hp hq hne e => ?_
  cases hp1 : inn p.1 a <;> cases hq1 : inn q.1 a
  · rw [ren_out hp1, ren_out hq1] at e; exact hne e
  · rw [ren_out hp1, ren_in hq1] at e
    have := mv_inn a to q.1 hq1 ha
    simp only at e
    rw [← e, h.fresh p hp] at this; cases this
  · rw [ren_in hp1, ren_out hq1] at e
    have := mv_inn a to p.1 hp1 ha
    simp only at e
    rw [e, h.fresh q hq] at this; cases this
  · rw [ren_in hp1, ren_in hq1] at e
    have e1 := mv_back a to p.1 hp1 ha
    have e2 := mv_back a to q.1 hq1 ha
    simp only at e
    rw [e, e2] at e1
    exact hne e1.symm
def moved (t : T) (a to : Bs) : T := ⟨t.ents.map (ren a to), t.fl, t.nx⟩
theorem Moves.look_out {t : T} {a to : Bs} (h : Moves t a to) {s : Bs} {k : Nat} (hs : inn s a = false) (hl : look t.ents s = some k) : look (moved t a to).ents s = some k := by
  have hm := look_mem hl
  have : (s, k) ∈ (moved t a to).ents := List.mem_map.2 ⟨(s, k), hm, ren_out hs⟩
  exact look_of h.apart this
theorem Moves.look_in {t : T} {a to : Bs} (h : Moves t a to) {s : Bs} {k : Nat} (hs : inn s a = true) (hl : look t.ents s = some k) : look (moved t a to).ents (mv a to s) = some k := by
  have hm := look_mem hl
  have : (mv a to s, k) ∈ (moved t a to).ents := List.mem_map.2 ⟨(s, k), hm, ren_in hs⟩
  exact look_of h.apart this
theorem Moves.dir_out {t : T} {a to : Bs} (h : Moves t a to) {s : Bs} (hs : inn s a = false) (hl : t.isDir s = true) : (moved t a to).isDir s = true := by
  obtain ⟨k, h1, h2⟩ := isDir_iff.1 hl
  exact isDir_iff.2 ⟨k, h.look_out hs h1, h2⟩
theorem Moves.dir_in {t : T} {a to : Bs} (h : Moves t a to) {s : Bs} (hs : inn s a = true) (hl : t.isDir s = true) : (moved t a to).isDir (mv a to s) = true := by
  obtain ⟨k, h1, h2⟩ := isDir_iff.1 hl
  exact isDir_iff.2 ⟨k, h.look_in hs h1, h2⟩
theorem Moves.std {t : T} {a to : Bs} (h : Moves t a to) : Std (moved t a to) := by
  have rt := (room_zero h.rm).1
  obtain ⟨cA, nA⟩ := right_cl h.ra
  obtain ⟨cB, nB⟩ := right_cl rt
  have jA := right_join h.ra
  have jB := right_join rt
  have ha := right_ne h.ra
  refine ⟨h.apart, fun p hp => ?_, fun p hp i h1 h2 => ?_, h.st.fr, by simpa [moved] using h.st.cn⟩
  · obtain ⟨q, hq, rfl⟩ := List.mem_map.1 hp
    obtain ⟨b, c⟩ := h.st.ok q hq
    rw [ren_snd]
    refine ⟨?_, c⟩
    cases hi : inn q.1 a
    · rw [ren_out hi]; exact b
    · rw [ren_in hi]; exact h.nw q hq hi
  · obtain ⟨q, hq, rfl⟩ := List.mem_map.1 hp
    have rq := (h.st.ok q hq).1
    cases hi : inn q.1 a
    · rw [ren_out hi] at h2 ⊢
      refine h.dir_out ?_ (h.st.up q hq i h1 h2)
      cases hx : inn (pre (parts q.1) i) a with
      | false => rfl
      | true =>
        have h3 := inn_pre (right_cl rq).1 h1 (Nat.le_of_lt h2)
        rw [right_join rq] at h3
        rw [inn_trans h3 hx] at hi; cases hi
    · rw [ren_in hi] at h2 ⊢
      simp only at h2 ⊢
      obtain ⟨R, hR⟩ := inn_split rq h.ra hi
      have cQ := (right_cl rq).1
      have e1 : q.1 = join (parts a ++ R) := by rw [← hR, right_join rq]
      have cR : Cl R := fun p hp => cQ p (by rw [hR]; exact List.mem_append.2 (.inr hp))
      have e2 : mv a to q.1 = join (parts to ++ R) := by
        have := mv_join (A := parts a) (R := R) (B := parts to) nA nB
        rw [jA, jB, ← e1] at this; exact this
      have e3 : parts (mv a to q.1) = parts to ++ R := by rw [e2, parts_join (cl_app cB cR).ok]
      rw [e3] at h2 ⊢
      by_cases hl : i < (parts to).length
      · have e4 : pre (parts to ++ R) i = pre (parts to) i := by rw [pre, pre, List.take_append_of_le_length (by omega)]
        rw [e4]
        refine h.dir_out ?_ (room_dirs h.st h.rm h1 hl)
        cases hx : inn (pre (parts to) i) a with
        | false => rfl
        | true =>
          have h3 := inn_pre cB h1 (Nat.le_of_lt hl)
          rw [jB] at h3
          have := inn_trans h3 hx
          rw [h.cy] at this; cases this
      · obtain ⟨j, rfl⟩ : ∃ j, i = (parts to).length + j := ⟨i - (parts to).length, by omega⟩
        rw [List.length_append] at h2
        have e4 : pre (parts to ++ R) ((parts to).length + j) = mv a to (pre (parts q.1) ((parts a).length + j)) := by
          rw [pre, pre, hR, List.take_length_add_append, List.take_length_add_append]
          have := mv_join (A := parts a) (R := R.take j) (B := parts to) nA nB
          rw [jA, jB] at this; exact this.symm
        rw [e4]
        have hl1 : 1 ≤ (parts a).length + j := by have := List.length_pos_iff.2 nA; omega
        have hl2 : (parts a).length + j < (parts q.1).length := by rw [hR, List.length_append]; omega
        refine h.dir_in ?_ (h.st.up q hq _ hl1 hl2)
        have : inn (join (parts a ++ R.take j)) (join (parts a)) = true := by
          rw [inn_parts (cl_app cA (cl_take cR j)) cA nA (by simp [nA])]
          exact ⟨_, rfl⟩
        rw [jA] at this
        rw [pre, hR, List.take_length_add_append]; exact this

theorem moves_of {t : T} (ht : Std t) (x : Deed) (ha : t.has x.name = true) (h1 : inn x.to x.name = false) (h2 : room t x.to = 0) (h3 : (t.inside x.name).any (fun s => !right (mv x.name x.to s)) = false) : Moves t x.name x.to := by
  obtain ⟨k, hk⟩ := has_iff.1 ha
  refine ⟨ht, (ht.ok _ hk).1, h1, h2, fun p hp hi => ?_⟩
  rw [List.any_eq_false] at h3
  have := h3 p.1 (inside_mem.2 ⟨has_iff.2 ⟨p.2, hp⟩, hi⟩)
  simpa using this
theorem Std.move {t : T} (ht : Std t) (x : Deed) (ha : t.has x.name = true) : Std (move t x).1 := by
  unfold Tre.move
  split
  · exact ht
  · split
    · exact ht
    · split
      · exact ht
      · rename_i h1 h2 h3
        exact (moves_of ht x ha (by simpa using h1) (by simpa using h2) (by simpa using h3)).std

theorem Std.act {t : T} (ht : Std t) (x : Deed) : Std (act t x).1 := by
  unfold Tre.act
  split
  · exact ht.create x
  · split
    · exact ht
    · split
      · exact ht
      · rename_i i hi
        split
        · exact ht.again x hi
        · split
          · exact ht.remove x hi
          · split
            · exact ht.move x (has_iff.2 ⟨i, look_mem hi⟩)
            · exact ht.change x hi
theorem Std.plant (l : List Deed) : ∀ {t : T}, Std t → Std (l.foldl (fun t x => (Tre.act t x).1) t) := by
  induction l with
  | nil => exact fun h => h
  | cons x l ih => exact fun h => ih (h.act x)
/-- What tells an error changes nothing. -/
theorem act_err {t : T} {x : Deed} (h : (act t x).2 ≠ 0) : (act t x).1 = t := by
  revert h
  unfold act create again remove move change
  split
  · split
    · intro _; rfl
    · split
      · intro _; rfl
      · intro h; exact absurd rfl h
  · split
    · intro _; rfl
    · split
      · intro _; rfl
      · repeat' split
        all_goals first | (intro _; rfl) | (intro h; exact absurd rfl h)
/-! The number of files. -/
theorem act_nx (t : T) (x : Deed) : (act t x).1.nx ≤ t.nx + 1 ∧ t.nx ≤ (act t x).1.nx := by
  unfold act create again remove move change
  repeat' split
  all_goals simp

/-! The same. -/
theorem same_self {t : T} (ht : Apart t.ents) : Same t t :=
  ⟨rfl, fun p hp => ⟨p.2, look_of ht hp, rfl⟩, fun p hp q hq k l h1 h2 => by
    rw [look_of ht hp] at h1; rw [look_of ht hq] at h2
    cases h1; cases h2; rfl⟩

/-- Moved there, another tree; moved back, this one. -/
theorem there_back {t : T} (ht : Std t) {a to : Bs} (ha : t.has a = true) {x y : Deed} (hx : x.what = 4 ∧ x.name = a ∧ x.to = to) (hy : y.what = 4 ∧ y.name = to ∧ y.to = a) (h : (act t x).2 = 0) :
    ¬ Same t (act t x).1 ∧ act (act t x).1 y = (t, 0) := by
  obtain ⟨rfl, rfl⟩ := hx.2
  obtain ⟨i, hi⟩ := has_iff.1 ha
  have hl := look_of ht.nd hi
  simp only at hl
  have e : act t x = move t x := by
    unfold act
    rw [if_neg (by omega), if_neg (by omega), hl]
    simp only
    rw [if_neg (by omega), if_neg (by omega), if_pos hx.1]
  rw [e] at h ⊢
  unfold move at h ⊢
  split at h
  · cases h
  · rename_i h1
    rw [if_neg h1]
    split at h
    · contradiction
    · rename_i h2
      rw [if_neg h2]
      split at h
      · cases h
      · rename_i h3
        rw [if_neg h3]
        have M := moves_of ht x ha (by simpa using h1) (by simpa using h2) (by simpa using h3)
        have hane := right_ne M.ra
        have rt := (room_zero M.rm).1
        have hself : inn x.name x.to = false := M.fresh _ hi
        have hnone : look (moved t x.name x.to).ents x.name = none := by
          rw [look_none]
          intro p hp
          obtain ⟨q, hq, rfl⟩ := List.mem_map.1 hp
          cases hi2 : inn q.1 x.name
          · rw [ren_out hi2]
            intro e; rw [e, inn_self] at hi2; cases hi2
          · rw [ren_in hi2]
            intro e
            have := mv_inn x.name x.to q.1 hi2 hane
            simp only at e
            rw [e, hself] at this; cases this
        constructor
        · intro hs
          obtain ⟨k, hk, _⟩ := hs.2.1 _ hi
          simp only at hk
          have := hnone
          unfold moved at this
          rw [this] at hk; cases hk
        · have hti : look (moved t x.name x.to).ents x.to = some i := by
            have := M.look_in (inn_self x.name) hl
            rwa [mv_self] at this
          have e : act (moved t x.name x.to) y = move (moved t x.name x.to) y := by
            unfold act
            rw [if_neg (by omega), if_neg (by omega), hy.2.1, hti]
            simp only
            rw [if_neg (by omega), if_neg (by omega), if_pos hy.1]
          show act (moved t x.name x.to) y = _
          rw [e]
          unfold move
          rw [hy.2.1, hy.2.2, if_neg (by simp [hself])]
          have hdirs : ∀ j, 1 ≤ j → j < (parts x.name).length → (moved t x.name x.to).isDir (pre (parts x.name) j) = true := fun j j1 j2 => by
            refine M.dir_out ?_ (ht.up _ hi j j1 j2)
            cases hx2 : inn (pre (parts x.name) j) x.name with
            | false => rfl
            | true =>
              have h4 := inn_pre (right_cl M.ra).1 j1 (Nat.le_of_lt j2)
              rw [right_join M.ra] at h4
              have h5 := inn_anti (pre_ne (right_cl M.ra).1 j1 (Nat.le_of_lt j2)) hane hx2 h4
              have h6 := congrArg (fun s => (parts s).length) h5
              rw [parts_pre (right_cl M.ra).1, List.length_take] at h6
              omega
          have hroom : room (moved t x.name x.to) x.name = 0 := by
            unfold room
            rw [if_neg (by simp [M.ra]), if_neg (by unfold T.has; rw [hnone]; simp), if_neg, if_neg]
            · rintro ⟨h4, h5⟩
              have := isDir_has (hdirs ((parts x.name).length - 1) (by omega) (by omega))
              rw [h5] at this; cases this
            · unfold blocked
              rw [List.any_eq_true]
              rintro ⟨j, hj, h4⟩
              simp only [Bool.and_eq_true, decide_eq_true_eq, Bool.not_eq_true'] at h4
              have := hdirs j h4.1 (List.mem_range.1 hj)
              rw [h4.2.2] at this; cases this
          rw [if_neg (by rw [hroom]; simp)]
          rw [if_neg]
          · refine Prod.ext ?_ rfl
            simp only
            have : (moved t x.name x.to).ents.map (ren x.to x.name) = t.ents := by
              show (t.ents.map (ren x.name x.to)).map (ren x.to x.name) = t.ents
              rw [List.map_map]
              conv => rhs; rw [← List.map_id t.ents]
              refine List.map_congr_left fun p hp => ?_
              show ren x.to x.name (ren x.name x.to p) = p
              cases hi2 : inn p.1 x.name
              · rw [ren_out hi2, ren_out (M.fresh p hp)]
              · rw [ren_in hi2, ren_in (mv_inn _ _ _ hi2 hane)]
                simp only
                rw [mv_back _ _ _ hi2 hane]
            rw [this]; rfl
          · intro h4
            obtain ⟨s, hs, h5⟩ := List.any_eq_true.1 h4
            obtain ⟨h6, h7⟩ := inside_mem.1 hs
            obtain ⟨k, hk⟩ := has_iff.1 h6
            obtain ⟨q, hq, e⟩ := List.mem_map.1 hk
            cases hi2 : inn q.1 x.name
            · rw [ren_out hi2] at e
              have := M.fresh q hq
              rw [e] at this
              simp only at this
              rw [this] at h7; cases h7
            · rw [ren_in hi2] at e
              have e2 : s = mv x.name x.to q.1 := by injection e with e _; exact e.symm
              rw [e2, mv_back _ _ _ hi2 hane, (ht.ok q hq).1] at h5
              cases h5
/-- Called again, and that name taken away. -/
theorem again_gone {t : T} (ht : Std t) {a to : Bs} (ha : t.has a = true) {x y : Deed} (hx : x.what = 2 ∧ x.name = a ∧ x.to = to) (hy : y.what = 3 ∧ y.name = to) (h : (act t x).2 = 0) :
    (act t x).1.alike a to = true ∧ act (act t x).1 y = (t, 0) := by
  obtain ⟨rfl, rfl⟩ := hx.2
  obtain ⟨i, hi⟩ := has_iff.1 ha
  have hl := look_of ht.nd hi
  simp only at hl
  have e : act t x = again t x i := by
    unfold act
    rw [if_neg (by omega), if_neg (by omega), hl]
    simp only
    rw [if_pos hx.1]
  have hS : Std (act t x).1 := ht.act x
  rw [e] at h hS ⊢
  unfold again at h hS ⊢
  split at h
  · cases h
  · rename_i h1
    rw [if_neg h1] at hS ⊢
    split at h
    · contradiction
    · rename_i h2
      rw [if_neg h2] at hS ⊢
      have hs : space t x.to = 0 := by simpa using h2
      have hfresh := room_fresh ht (space_zero hs).1
      have hnone : look t.ents x.to = none := by
        have := (room_zero (space_zero hs).1).2.1
        unfold T.has at this; simpa using this
      have hne : x.name ≠ x.to := fun e => by rw [e, hnone] at hl; cases hl
      have k1 : look (t.ents ++ [(x.to, i)]) x.name = some i := by rw [look_snoc, hl]; rfl
      have k2 : look (t.ents ++ [(x.to, i)]) x.to = some i := by rw [look_snoc, hnone]; simp
      refine ⟨by rw [alike_of k1 k2]; simp, ?_⟩
      unfold act
      rw [if_neg (by omega), if_neg (by omega), hy.2]
      simp only
      rw [k2]
      simp only
      rw [if_neg (by omega), if_pos hy.1]
      unfold remove
      rw [hy.2]
      have hal : (T.inside ⟨t.ents ++ [(x.to, i)], t.fl, t.nx⟩ x.to).length ≤ 1 := by
        rw [alone hS (by unfold T.has; simp only; rw [k2]; rfl)]
        intro p hp hin
        rcases List.mem_append.1 hp with hp | hp
        · rw [hfresh p hp] at hin; cases hin
        · obtain rfl : p = (x.to, i) := by simpa using hp
          rfl
      rw [if_neg (by omega)]
      have hlk : T.links ⟨t.ents ++ [(x.to, i)], t.fl, t.nx⟩ x.to ≠ 1 :=
        two_links (b := x.name) (i := i) hS.nd (by simp) (List.mem_append.2 (.inl hi)) hne.symm
      rw [if_neg hlk]
      refine Prod.ext ?_ rfl
      simp only
      have : (t.ents ++ [(x.to, i)]).filter (fun p => !(p.1 == x.to)) = t.ents := by
        rw [List.filter_append, List.filter_eq_self.2 (fun p hp => by have := look_none.1 hnone p hp; simp [this])]
        simp
      rw [this]

/-! Data and who owns it. -/
theorem act_change {t : T} {a : Bs} {i : Nat} (hl : look t.ents a = some i) {x : Deed} (hx : 5 ≤ x.what ∧ x.what ≤ 8) (hn : x.name = a) : act t x = change t x i := by
  unfold act
  rw [if_neg (by omega), if_neg (by omega), hn, hl]
  simp only
  rw [if_neg (by omega), if_neg (by omega), if_neg (by omega)]
/-- What is told of a file is told under all its names, and no others. -/
theorem change_get {t : T} {a : Bs} {i : Nat} (hl : look t.ents a = some i) {x : Deed} (h : (change t x i).2 = 0) (b : Bs) :
    (change t x i).1.get b = (if t.alike a b = true then some (changed (t.file i) x) else t.get b) ∧ (change t x i).1.ents = t.ents := by
  unfold change at h ⊢
  split at h
  · cases h
  · rename_i h1
    rw [if_neg h1]
    split at h
    · cases h
    · rename_i h2
      rw [if_neg h2]
      split at h
      · cases h
      · rename_i h3
        rw [if_neg h3]
        refine ⟨?_, rfl⟩
        unfold T.get
        simp only
        cases hb : look t.ents b with
        | none => simp [T.alike, hl, hb]
        | some k =>
          rw [alike_of hl hb]
          simp only [Option.map_some, T.file, upd]
          by_cases e : k = i
          · subst e; simp
          · have : ¬ i = k := fun e' => e e'.symm
            simp [e, this]
theorem alike_ents {t u : T} (h : t.ents = u.ents) (a b : Bs) : t.alike a b = u.alike a b := by unfold T.alike; rw [h]

end Tre

namespace Tre
open Pth

/-- Where a link leads. -/
def toP (at_ link : Bs) : Bs × Bool :=
  if link.head? = some 47 then (clean link, cleanOk link) else (clean (join (parts at_).dropLast ++ 47 :: link), cleanOk (join (parts at_).dropLast ++ 47 :: link))
/-- The number of parts of the shortest prefix that is a link (0: none). -/
def soft (t : T) (P : List Bs) : Nat := match (List.range P.length).find? fun i => t.isKind (pre P (i + 1)) 50 with | some i => i + 1 | none => 0
def ends (t : T) (now : Bs) : Bs × Int := if now ≠ [] ∧ t.has now = false then ([], 7) else (now, 0)
def linkAt (t : T) (s : Bs) : Bs := match t.get s with | some n => n.link | none => []
def hop (t : T) (now : Bs) : Bs × Bool := toP (pre (parts now) (soft t (parts now))) (linkAt t (pre (parts now) (soft t (parts now))))
def next (t : T) (now : Bs) : Bs := join (parts (hop t now).1 ++ (parts now).drop (soft t (parts now)))
def goes (t : T) : Nat → Bs → Bs × Int
  | 0, now => if soft t (parts now) = 0 then ends t now else ([], 11)
  | g + 1, now => if soft t (parts now) = 0 then ends t now else if (hop t now).2 = false then ([], 5) else goes t g (next t now)
def follow (t : T) (name : Bs) : Bs × Int := if cleanOk name = false then ([], 5) else goes t 8 (clean name)

theorem soft_zero {t : T} {P : List Bs} : soft t P = 0 ↔ ∀ i, 1 ≤ i → i ≤ P.length → t.isKind (pre P i) 50 = false := by
  unfold soft
  cases h : (List.range P.length).find? fun i => t.isKind (pre P (i + 1)) 50 with
  | none =>
    simp only [true_iff]
    intro i h1 h2
    have := List.find?_eq_none.1 h (i - 1) (List.mem_range.2 (by omega))
    rw [show i - 1 + 1 = i by omega] at this
    simpa using this
  | some i =>
    simp only [Nat.add_eq_zero_iff, Nat.one_ne_zero, and_false, false_iff]
    intro hall
    have h1 := List.find?_some h
    have h2 := List.mem_range.1 (List.mem_of_find?_eq_some h)
    rw [hall (i + 1) (by omega) (by omega)] at h1
    cases h1
theorem soft_pos {t : T} {P : List Bs} {n : Nat} (h1 : 1 ≤ n) (h2 : n ≤ P.length) (h3 : t.isKind (pre P n) 50 = true) (h4 : ∀ i, 1 ≤ i → i < n → t.isKind (pre P i) 50 = false) : soft t P = n := by
  unfold soft
  cases h : (List.range P.length).find? fun i => t.isKind (pre P (i + 1)) 50 with
  | none =>
    have := List.find?_eq_none.1 h (n - 1) (List.mem_range.2 (by omega))
    rw [show n - 1 + 1 = n by omega, h3] at this
    exact absurd rfl this
  | some i =>
    obtain ⟨ha, l1, l2, e, hb⟩ := List.find?_eq_some_iff_append.1 h
    simp only
    have hi := List.mem_range.1 (List.mem_of_find?_eq_some h)
    rcases Nat.lt_trichotomy (i + 1) n with h5 | h5 | h5
    · rw [h4 (i + 1) (by omega) h5] at ha; cases ha
    · exact h5
    · exfalso
      have hmem : n - 1 ∈ l1 := by
        have h6 : (l1 ++ i :: l2)[n - 1]? = some (n - 1) := by rw [← e, List.getElem?_range (by omega)]
        have h7 : l1.length = i := by
          have h8 : (List.range P.length)[l1.length]? = some i := by rw [e]; simp
          rw [List.getElem?_range] at h8
          · simpa using h8
          · rcases Nat.lt_or_ge l1.length P.length with h9 | h9
            · exact h9
            · rw [List.getElem?_eq_none (by simpa using h9)] at h8; cases h8
        rw [List.getElem?_append_left (by omega)] at h6
        exact List.mem_of_getElem? h6
      have := hb (n - 1) hmem
      rw [show n - 1 + 1 = n by omega, h3] at this
      cases this
theorem goes_err (t : T) : ∀ (g : Nat) (now : Bs), (goes t g now).2 ≠ 0 → (goes t g now).1 = []
  | 0, now => by
    unfold goes ends
    split
    · split
      · intro _; rfl
      · intro h; exact absurd rfl h
    · intro _; rfl
  | g + 1, now => by
    have ih := goes_err t g (next t now)
    unfold goes ends
    split
    · split
      · intro _; rfl
      · intro h; exact absurd rfl h
    · split
      · intro _; rfl
      · exact ih
theorem goes_ok (t : T) : ∀ (g : Nat) (now : Bs), (goes t g now).2 = 0 → soft t (parts (goes t g now).1) = 0 ∧ ((goes t g now).1 = [] ∨ t.has (goes t g now).1 = true)
  | 0, now => by
    unfold goes ends
    split
    · rename_i h1
      split
      · intro h; cases h
      · rename_i h2
        intro _
        refine ⟨h1, ?_⟩
        by_cases h3 : now = []
        · exact .inl h3
        · right
          cases h4 : t.has now
          · exact absurd ⟨h3, h4⟩ h2
          · rfl
    · intro h; cases h
  | g + 1, now => by
    have ih := goes_ok t g (next t now)
    unfold goes ends
    split
    · rename_i h1
      split
      · intro h; cases h
      · rename_i h2
        intro _
        refine ⟨h1, ?_⟩
        by_cases h3 : now = []
        · exact .inl h3
        · right
          cases h4 : t.has now
          · exact absurd ⟨h3, h4⟩ h2
          · rfl
    · split
      · intro h; cases h
      · exact ih
theorem follow_err {t : T} {name : Bs} (h : (follow t name).2 ≠ 0) : (follow t name).1 = [] := by
  unfold follow at h ⊢
  split
  · rfl
  · rename_i h1
    rw [if_neg h1] at h
    exact goes_err t 8 _ h
theorem goes_soft {t : T} {g : Nat} {now : Bs} (h : soft t (parts now) = 0) : goes t g now = ends t now := by
  cases g with
  | zero => unfold goes; rw [if_pos h]
  | succ g => unfold goes; rw [if_pos h]
/-- No link is left where a name leads. -/
theorem follow_ok {t : T} (ht : Std t) {name to : Bs} (h : follow t name = (to, 0)) :
    follow t to = (to, 0) ∧ (to = [] ∨ right to = true) ∧ ∀ i, 1 ≤ i → i ≤ (parts to).length → ∃ k, look t.ents (pre (parts to) i) = some k ∧ (t.file k).kind ≠ 50 := by
  unfold follow at h
  split at h
  · cases h
  · have e := goes_ok t 8 (clean name) (by rw [h])
    rw [h] at e
    obtain ⟨e1, e2⟩ := e
    simp only at e1 e2
    have hr : to = [] ∨ right to = true := e2.imp id fun h2 => by
      obtain ⟨k, hk⟩ := has_iff.1 h2
      exact (ht.ok _ hk).1
    have hc : cleanOk to = true ∧ clean to = to := by
      rcases hr with rfl | hr
      · exact ⟨rfl, rfl⟩
      · have := cl_clean (right_cl hr).1
        rw [right_join hr] at this
        exact ⟨by unfold cleanOk; rw [this], by unfold clean; rw [this]; exact right_join hr⟩
    refine ⟨?_, hr, fun i h1 h2 => ?_⟩
    · unfold follow
      rw [if_neg (by simp [hc.1]), hc.2, goes_soft e1]
      unfold ends
      rw [if_neg]
      rintro ⟨h3, h4⟩
      rcases e2 with h5 | h5
      · exact h3 h5
      · rw [h4] at h5; cases h5
    · rcases e2 with rfl | h3
      · have : (parts []).length = 0 := rfl
        omega
      · obtain ⟨k, hk⟩ := has_iff.1 h3
        have hlk : ∃ j, look t.ents (pre (parts to) i) = some j := by
          by_cases h4 : i < (parts to).length
          · obtain ⟨j, hj, _⟩ := isDir_iff.1 (ht.up _ hk i h1 h4)
            exact ⟨j, hj⟩
          · have : i = (parts to).length := by omega
            rw [this, pre_len, right_join (ht.ok _ hk).1]
            exact ⟨k, look_of ht.nd hk⟩
        obtain ⟨j, hj⟩ := hlk
        refine ⟨j, hj, fun h5 => ?_⟩
        have h6 := soft_zero.1 e1 i h1 h2
        have := isKind_iff.2 ⟨j, hj, h5⟩
        rw [h6] at this; cases this

/-! What the statements ask. -/
theorem get_of {t : T} {s : Bs} {k : Nat} (h : look t.ents s = some k) : t.get s = some (t.file k) := by unfold T.get; rw [h]; rfl
theorem Std.name {t : T} (ht : Std t) {s : Bs} (h : s ∈ t.names) : ∃ k, look t.ents s = some k ∧ right s = true ∧ rightN (t.file k) = true ∧ 1 ≤ t.links s := by
  obtain ⟨k, hk⟩ := has_iff.1 (names_mem.1 h)
  obtain ⟨a, _, n, b, c⟩ := ht.ok _ hk
  refine ⟨k, look_of ht.nd hk, a, ?_, links_pos ht.nd hk⟩
  unfold T.file; rw [b]; exact c
theorem Std.dir {t : T} (ht : Std t) {s : Bs} (h : s ∈ t.names) (h0 : join (parts s).dropLast ≠ []) : ∃ k, look t.ents (join (parts s).dropLast) = some k ∧ (t.file k).kind = 53 := by
  obtain ⟨k, hk⟩ := has_iff.1 (names_mem.1 h)
  have hl : 2 ≤ (parts s).length := by
    rcases Nat.lt_or_ge 1 (parts s).length with h1 | h1
    · exact h1
    · exfalso; apply h0
      have : (parts s).dropLast = [] := List.eq_nil_of_length_eq_zero (by rw [List.length_dropLast]; omega)
      rw [this]; rfl
  have := ht.up _ hk ((parts s).length - 1) (by show 1 ≤ (parts s).length - 1; omega) (by show (parts s).length - 1 < (parts s).length; omega)
  have e : pre (parts s) ((parts s).length - 1) = join (parts s).dropLast := by rw [pre, ← List.dropLast_eq_take]
  simp only at this
  rw [e] at this
  exact isDir_iff.1 this
theorem names_len {t : T} : t.names.length = t.ents.length := by rw [(names_perm t).length_eq, List.length_map]
/-- As many names as are called so. -/
theorem links_names (t : T) (s : Bs) : (t.names.filter fun x => t.alike s x).length = t.links s := by
  unfold T.links
  rw [((names_perm t).filter _).length_eq, List.filter_map, List.length_map]
  rfl
theorem alike_comm (t : T) (a b : Bs) : t.alike a b = t.alike b a := by
  unfold T.alike
  cases look t.ents a with
  | none => cases look t.ents b <;> rfl
  | some i =>
    cases look t.ents b with
    | none => rfl
    | some k =>
      show (i == k) = (k == i)
      by_cases e : i = k
      · subst e; rfl
      · rw [beq_eq_false_iff_ne.2 e, beq_eq_false_iff_ne.2 fun e' => e e'.symm]
theorem links_nil {t : T} (h : t.ents = []) (s : Bs) : t.links s = 0 := by unfold T.links; rw [h]; rfl
/-- What Remove does. -/
theorem remove_tells {t : T} (ht : Std t) {a : Bs} (ha : t.has a = true) {x : Deed} (hx : x.what = 3 ∧ x.name = a) :
    ((∃ s ∈ t.names, s ≠ a ∧ inn s a = true) ∧ (act t x).2 = 6 ∧ (act t x).1 = t) ∨
    ((¬ ∃ s ∈ t.names, s ≠ a ∧ inn s a = true) ∧ (act t x).2 = 0 ∧ (act t x).1.get a = none ∧ ∀ b ∈ t.names, b ≠ a → (act t x).1.get b = t.get b) := by
  obtain ⟨rfl⟩ := hx.2
  obtain ⟨i, hi⟩ := has_iff.1 ha
  have hl := look_of ht.nd hi
  simp only at hl
  have e : act t x = remove t x i := by
    unfold act
    rw [if_neg (by omega), if_neg (by omega), hl]
    simp only
    rw [if_neg (by omega), if_pos hx.1]
  rw [e]
  unfold remove
  by_cases h : 1 < (t.inside x.name).length
  · rw [if_pos h]
    refine .inl ⟨?_, rfl, rfl⟩
    refine Decidable.byContradiction fun hno => ?_
    have := (alone ht ha).2 fun p hp hin => Decidable.byContradiction fun hne => hno ⟨p.1, names_mem.2 (has_iff.2 ⟨p.2, hp⟩), hne, hin⟩
    omega
  · rw [if_neg h]
    refine .inr ⟨?_, rfl, ?_, fun b hb hne => ?_⟩
    · rintro ⟨s, hs, hne, hin⟩
      obtain ⟨k, hk⟩ := has_iff.1 (names_mem.1 hs)
      exact hne ((alone ht ha).1 (by omega) _ hk hin)
    · unfold T.get
      simp only
      rw [look_filter_self]; rfl
    · obtain ⟨k, hk⟩ := has_iff.1 (names_mem.1 hb)
      unfold T.get
      simp only
      rw [look_filter _ _ _ hne, look_of ht.nd hk]
      simp only [Option.map_some, T.file]
      rw [show (if t.links x.name = 1 then upd t.fl i none else t.fl) k = t.fl k from remove_file ht.nd hl hk hne]
/-- A change that a file can bear goes. -/
theorem change_goes {t : T} {i : Nat} {x : Deed} (h5 : x.what ≠ 5) (h : rightN (changed (t.file i) x) = true) : (change t x i).2 = 0 := by
  unfold change
  rw [if_neg (fun h => h5 h.1), if_neg (fun h => h5 h.1), if_neg (by simp [h])]
theorem Std.short {t : T} (ht : Std t) {s : Bs} {k : Nat} (h : look t.ents s = some k) : s.length ≤ 120 ∧ k ≤ t.nx :=
  ⟨(right_len (ht.ok _ (look_mem h)).1).1, (ht.ok _ (look_mem h)).2.1⟩

end Tre

namespace Tre
open Pth

def setN (f : Nat → Option Nat) (i k : Nat) : Nat → Option Nat := fun x => if x = i then some k else f x
/-- What is known behind the names L: each is in both trees with the same file, and f and h tell the files' partners. -/
structure Inv (t u : T) (L : List (Bs × Nat)) (f h : Nat → Option Nat) : Prop where
  sub : ∀ p ∈ L, p ∈ t.ents
  ok : ∀ p ∈ L, ∃ k, look u.ents p.1 = some k ∧ t.file p.2 = u.file k ∧ f p.2 = some k ∧ h k = some p.2
  fo : ∀ i k, f i = some k → ∃ p ∈ L, p.2 = i ∧ look u.ents p.1 = some k
  ho : ∀ k i, h k = some i → ∃ p ∈ L, p.2 = i ∧ look u.ents p.1 = some k

theorem Inv.nil (t u : T) : Inv t u [] (fun _ => none) (fun _ => none) := ⟨by simp, by simp, fun _ _ h => by simp at h, fun _ _ h => by simp at h⟩
section
variable {t u : T} {L : List (Bs × Nat)} {f h : Nat → Option Nat} {p : Bs × Nat} {k : Nat}
theorem Inv.lacks (hp : p ∈ t.ents) (hl : look u.ents p.1 = none) : ¬ Same t u := fun s => by
  obtain ⟨k, hk, _⟩ := s.2.1 p hp; rw [hl] at hk; cases hk
theorem Inv.unlike (hp : p ∈ t.ents) (hl : look u.ents p.1 = some k) (hf : t.file p.2 ≠ u.file k) : ¬ Same t u := fun s => by
  obtain ⟨k', hk, e⟩ := s.2.1 p hp; rw [hl] at hk; cases hk; exact hf e
theorem Inv.clashF (I : Inv t u L f h) (hp : p ∈ t.ents) (hl : look u.ents p.1 = some k) {k' : Nat} (hf : f p.2 = some k') (hne : k' ≠ k) : ¬ Same t u := fun s => by
  obtain ⟨q, hq, e, hlq⟩ := I.fo _ _ hf
  exact hne ((s.2.2 q (I.sub q hq) p hp _ _ hlq hl).1 e)
theorem Inv.clashH (I : Inv t u L f h) (hp : p ∈ t.ents) (hl : look u.ents p.1 = some k) {i : Nat} (hh : h k = some i) (hne : i ≠ p.2) : ¬ Same t u := fun s => by
  obtain ⟨q, hq, e, hlq⟩ := I.ho _ _ hh
  exact hne (e ▸ (s.2.2 q (I.sub q hq) p hp _ _ hlq hl).2 rfl)
theorem Inv.more (I : Inv t u L f h) (hp : p ∈ t.ents) (hl : look u.ents p.1 = some k) (hf : t.file p.2 = u.file k) (h1 : ∀ k', f p.2 = some k' → k' = k) (h2 : ∀ i, h k = some i → i = p.2) :
    Inv t u (L ++ [p]) (setN f p.2 k) (setN h k p.2) := by
  refine ⟨fun q hq => ?_, fun q hq => ?_, fun i m e => ?_, fun m i e => ?_⟩
  · rcases List.mem_append.1 hq with hq | hq
    · exact I.sub q hq
    · rw [List.mem_singleton.1 hq]; exact hp
  · rcases List.mem_append.1 hq with hq | hq
    · obtain ⟨m, e1, e2, e3, e4⟩ := I.ok q hq
      refine ⟨m, e1, e2, ?_, ?_⟩
      · unfold setN
        by_cases e : q.2 = p.2
        · rw [if_pos e]; rw [e] at e3; rw [h1 m e3]
        · rw [if_neg e]; exact e3
      · unfold setN
        by_cases e : m = k
        · rw [if_pos e]; rw [e] at e4; rw [h2 _ e4]
        · rw [if_neg e]; exact e4
    · rw [List.mem_singleton.1 hq]
      exact ⟨k, hl, hf, by simp [setN], by simp [setN]⟩
  · unfold setN at e
    split at e
    · rename_i e'
      cases e
      exact ⟨p, by simp, e'.symm, hl⟩
    · obtain ⟨q, hq, e1, e2⟩ := I.fo _ _ e
      exact ⟨q, by simp [hq], e1, e2⟩
  · unfold setN at e
    split at e
    · rename_i e'
      cases e
      exact ⟨p, by simp, rfl, by rw [e']; exact hl⟩
    · obtain ⟨q, hq, e1, e2⟩ := I.ho _ _ e
      exact ⟨q, by simp [hq], e1, e2⟩
theorem Inv.same (I : Inv t u L f h) (hw : ∀ p ∈ t.ents, p ∈ L) (hn : t.ents.length = u.ents.length) : Same t u := by
  refine ⟨hn, fun p hp => ?_, fun p hp q hq k m e1 e2 => ?_⟩
  · obtain ⟨k, e1, e2, _⟩ := I.ok p (hw p hp)
    exact ⟨k, e1, e2⟩
  · obtain ⟨k', a1, _, a3, a4⟩ := I.ok p (hw p hp)
    obtain ⟨m', b1, _, b3, b4⟩ := I.ok q (hw q hq)
    rw [e1] at a1; cases a1
    rw [e2] at b1; cases b1
    constructor
    · intro e; rw [e, b3] at a3; cases a3; rfl
    · intro e; subst e; rw [b4] at a4; exact (Option.some.inj a4).symm
end

end Tre

namespace Hol

/-- A piece: where it stands, and how many bytes it has. -/
abbrev Pc := Nat × Nat

/-- the bytes of a piece -/
def cut (l : List UInt8) (p : Pc) : List UInt8 := (l.drop p.1).take p.2
/-- pieces that lie ahead of n, one behind the other, not even side by side; the last one first -/
def Ord : Nat → List Pc → Prop
  | _, [] => True
  | n, (a, s) :: r => 1 ≤ s ∧ a + s ≤ n ∧ (match r with | [] => True | (b, t) :: _ => b + t < a) ∧ Ord a r
theorem Ord.mono {m n : Nat} {r : List Pc} (h : Ord m r) (hmn : m ≤ n) : Ord n r := by
  cases r with
  | nil => trivial
  | cons p r => obtain ⟨a, s⟩ := p; exact ⟨h.1, by have := h.2.1; omega, h.2.2⟩

/-- a block more, that is not 0, at place a -/
def push (acc : List Pc) (a n : Nat) : List Pc := match acc with
  | [] => [(a, n)]
  | (b, s) :: r => if b + s = a then (b, s + n) :: r else (a, n) :: (b, s) :: r
theorem push_nil (a n : Nat) : push [] a n = [(a, n)] := rfl
theorem push_cons (b s : Nat) (r : List Pc) (a n : Nat) : push ((b, s) :: r) a n = if b + s = a then (b, s + n) :: r else (a, n) :: (b, s) :: r := rfl
def zeros (l : List UInt8) : Bool := l.all (· == 0)
/-- block k -/
def blk (l : List UInt8) (st k : Nat) : List UInt8 := (l.drop (k * st)).take st
/-- the pieces of the first k blocks, the last one first -/
def acc (l : List UInt8) (st : Nat) : Nat → List Pc
  | 0 => []
  | k + 1 => if zeros (blk l st k) then acc l st k else push (acc l st k) (k * st) (blk l st k).length
/-- how many blocks -/
def rounds (n st : Nat) : Nat := (n + st - 1) / st
def find (l : List UInt8) (st : Nat) : List Pc := (acc l st (rounds l.length st)).reverse

theorem rounds_bd (n st : Nat) (h : 1 ≤ st) : n ≤ rounds n st * st ∧ (∀ k, k < rounds n st → k * st < n) := by
  unfold rounds
  constructor
  · have := Nat.div_add_mod (n + st - 1) st
    have h2 := Nat.mod_lt (n + st - 1) h
    rw [Nat.mul_comm] at this
    omega
  · intro k hk
    have := (Nat.le_div_iff_mul_le h (x := k + 1) (y := n + st - 1)).1 hk
    rw [Nat.add_mul] at this
    omega

theorem push_ord {r : List Pc} {a n : Nat} (h : Ord a r) (hn : 1 ≤ n) : Ord (a + n) (push r a n) := by
  cases r with
  | nil => exact ⟨hn, Nat.le_refl _, trivial, trivial⟩
  | cons p r =>
    obtain ⟨b, s⟩ := p
    obtain ⟨h1, h2, h3, h4⟩ := h
    rw [push_cons]
    by_cases e : b + s = a
    · rw [if_pos e]; exact ⟨by omega, by omega, h3, h4⟩
    · rw [if_neg e]; exact ⟨hn, Nat.le_refl _, by show b + s < a; omega, h1, h2, h3, h4⟩

theorem blk_len (l : List UInt8) (st k : Nat) : (blk l st k).length = min st (l.length - k * st) := by
  unfold blk; rw [List.length_take, List.length_drop]

theorem acc_ord (l : List UInt8) (st : Nat) (h : 1 ≤ st) : ∀ k, k ≤ rounds l.length st → Ord (min (k * st) l.length) (acc l st k) := by
  intro k
  induction k with
  | zero => intro _; trivial
  | succ k ih =>
    intro hk
    have h0 := ih (by omega)
    have hb := (rounds_bd l.length st h).2 k (by omega)
    have hl := blk_len l st k
    have e1 : min (k * st) l.length = k * st := by omega
    rw [e1] at h0
    have e2 : (k + 1) * st = k * st + st := by rw [Nat.add_mul, Nat.one_mul]
    simp only [acc]
    split
    · exact h0.mono (by omega)
    · have := push_ord (n := (blk l st k).length) h0 (by omega)
      have e3 : k * st + (blk l st k).length = min ((k + 1) * st) l.length := by omega
      rwa [e3] at this

/-- what holds of each piece, and what is told of the rest -/
def InP (i : Nat) (p : Pc) : Prop := p.1 ≤ i ∧ i < p.1 + p.2
theorem push_in (r : List Pc) (a n i : Nat) : (∃ p ∈ push r a n, InP i p) ↔ (∃ p ∈ r, InP i p) ∨ (a ≤ i ∧ i < a + n) := by
  cases r with
  | nil => simp [push, InP]
  | cons p r =>
    obtain ⟨b, s⟩ := p
    rw [push_cons]
    by_cases e : b + s = a
    · rw [if_pos e]
      simp only [List.mem_cons, exists_eq_or_imp, InP]
      constructor
      · rintro (h | h)
        · by_cases h2 : i < b + s
          · exact .inl (.inl ⟨h.1, h2⟩)
          · exact .inr ⟨by omega, by omega⟩
        · exact .inl (.inr h)
      · rintro ((h | h) | h)
        · exact .inl ⟨h.1, by omega⟩
        · exact .inr h
        · exact .inl ⟨by omega, by omega⟩
    · rw [if_neg e]
      simp only [List.mem_cons, exists_eq_or_imp, InP]
      constructor
      · rintro (h | h)
        · exact .inr h
        · exact .inl h
      · rintro (h | h)
        · exact .inr h
        · exact .inl h

theorem zeros_get {l : List UInt8} (h : zeros l = true) (i : Nat) (hi : i < l.length) : l[i] = 0 := by
  have := List.all_eq_true.1 h l[i] (List.getElem_mem hi)
  simpa using this

/-- Out of the pieces all is 0. -/
theorem acc_rest (l : List UInt8) (st : Nat) (h : 1 ≤ st) : ∀ k, k ≤ rounds l.length st → ∀ i, (hi : i < l.length) → i < k * st → (¬ ∃ p ∈ acc l st k, InP i p) → l[i] = 0 := by
  intro k
  induction k with
  | zero => intro _ i _ h2 _; omega
  | succ k ih =>
    intro hk i hi h2 hno
    have e2 : (k + 1) * st = k * st + st := by rw [Nat.add_mul, Nat.one_mul]
    have hb := (rounds_bd l.length st h).2 k (by omega)
    have hl := blk_len l st k
    simp only [acc] at hno
    by_cases hik : i < k * st
    · refine ih (by omega) i hi hik fun hp => hno ?_
      split
      · exact hp
      · exact (push_in _ _ _ _).2 (.inl hp)
    · split at hno
      · rename_i hz
        have := zeros_get hz (i - k * st) (by omega)
        unfold blk at this
        rw [List.getElem_take, List.getElem_drop] at this
        have e : k * st + (i - k * st) = i := by omega
        simpa [e] using this
      · exact absurd ((push_in _ _ _ _).2 (.inr ⟨by omega, by omega⟩)) hno

/-- Each piece begins at a block, and holds a byte that is not 0. -/
theorem acc_each (l : List UInt8) (st : Nat) : ∀ k, k ≤ rounds l.length st → ∀ p ∈ acc l st k, p.1 % st = 0 ∧ zeros (cut l p) = false := by
  intro k
  induction k with
  | zero => intro _ p hp; cases hp
  | succ k ih =>
    intro hk p hp
    simp only [acc] at hp
    split at hp
    · exact ih (by omega) p hp
    · rename_i hz
      have hz' : zeros (blk l st k) = false := by simpa using hz
      have hold := ih (by omega)
      have hnew : (k * st) % st = 0 ∧ zeros (cut l (k * st, (blk l st k).length)) = false := by
        refine ⟨Nat.mul_mod_left _ _, ?_⟩
        have : cut l (k * st, (blk l st k).length) = blk l st k := by
          unfold cut blk
          simp only
          rw [List.length_take]
          apply List.ext_getElem?
          intro j
          simp only [List.getElem?_take]
          split <;> split <;> first | rfl | (exfalso; omega) | skip
          rw [List.getElem?_eq_none (by omega)]
        rw [this]; exact hz'
      revert hp hold
      cases acc l st k with
      | nil =>
        intro hp _
        have : p = (k * st, (blk l st k).length) := by simpa [push] using hp
        rw [this]; exact hnew
      | cons q r =>
        obtain ⟨b, s⟩ := q
        intro hp hold
        rw [push_cons] at hp
        by_cases e : b + s = k * st
        · rw [if_pos e] at hp
          rcases List.mem_cons.1 hp with rfl | hp
          · obtain ⟨o1, o2⟩ := hold (b, s) (List.mem_cons_self ..)
            refine ⟨o1, ?_⟩
            cases hc : zeros (cut l (b, s + (blk l st k).length)) with
            | false => rfl
            | true =>
              exfalso
              have : zeros (cut l (b, s)) = true := by
                unfold zeros at hc ⊢
                rw [List.all_eq_true] at hc ⊢
                intro x hx
                refine hc x ?_
                unfold cut at hx ⊢
                simp only at hx ⊢
                exact (List.take_subset_take_left _ (by omega)) hx
              rw [this] at o2; cases o2
          · exact hold p (List.mem_cons_of_mem _ hp)
        · rw [if_neg e] at hp
          rcases List.mem_cons.1 hp with rfl | hp
          · exact hnew
          · exact hold p hp

/-! ### Put and Take -/

/-- pieces one behind the other, from lo on, not side by side, all ahead of n -/
def Asc (n : Nat) : Nat → List Pc → Prop
  | _, [] => True
  | lo, (a, s) :: r => 1 ≤ s ∧ lo ≤ a ∧ a + s ≤ n ∧ Asc n (a + s + 1) r
theorem Asc.snoc {n : Nat} : ∀ {r : List Pc} {lo a s : Nat}, Asc a lo r → 1 ≤ s → (∀ p ∈ r, p.1 + p.2 < a) → lo ≤ a → a + s ≤ n → Asc n lo (r ++ [(a, s)])
  | [], _, _, _, _, h1, _, h3, h4 => ⟨h1, h3, h4, trivial⟩
  | (b, t) :: r, lo, a, s, h, h1, h2, h3, h4 => by
    have hb := h2 (b, t) (List.mem_cons_self ..)
    simp only at hb
    exact ⟨h.1, h.2.1, by omega, Asc.snoc h.2.2.2 h1 (fun p hp => h2 p (List.mem_cons_of_mem _ hp)) (by omega) h4⟩
theorem Ord.ends : ∀ {r : List Pc} {n : Nat}, Ord n r → ∀ p ∈ r, p.1 + p.2 ≤ n
  | [], _, _, p, hp => by cases hp
  | (a, s) :: r, n, h, p, hp => by
    rcases List.mem_cons.1 hp with rfl | hp
    · exact h.2.1
    · have := Ord.ends h.2.2.2 p hp
      have := h.2.1
      omega
theorem Ord.apart {a s n : Nat} {r : List Pc} (h : Ord n ((a, s) :: r)) : ∀ p ∈ r, p.1 + p.2 < a := by
  obtain ⟨_, _, h3, h4⟩ := h
  cases r with
  | nil => intro p hp; cases hp
  | cons q r =>
    obtain ⟨b, t⟩ := q
    intro p hp
    rcases List.mem_cons.1 hp with rfl | hp
    · exact h3
    · have := Ord.ends h4.2.2.2 p hp
      have h5 : b + t < a := h3
      omega
theorem Ord.asc : ∀ {r : List Pc} {n : Nat}, Ord n r → Asc n 0 r.reverse
  | [], _, _ => trivial
  | (a, s) :: r, n, h => by
    rw [List.reverse_cons]
    exact Asc.snoc (Ord.asc h.2.2.2) h.1 (fun p hp => h.apart p (List.mem_reverse.1 hp)) (Nat.zero_le _) h.2.1

def take (l : List UInt8) (ps : List Pc) : List UInt8 := ps.flatMap (cut l)
def size (ps : List Pc) : Nat := (ps.map (·.2)).sum
def splice (b : List UInt8) (a : Nat) (d : List UInt8) : List UInt8 := b.take a ++ d ++ b.drop (a + d.length)
def putGo (b data : List UInt8) : List Pc → List UInt8
  | [] => b
  | (a, s) :: r => putGo (splice b a (data.take s)) (data.drop s) r
def put (data : List UInt8) (ps : List Pc) (n : Nat) : List UInt8 := putGo (List.replicate n 0) data ps

theorem splice_len (b : List UInt8) (a : Nat) (d : List UInt8) (h : a + d.length ≤ b.length) : (splice b a d).length = b.length := by
  unfold splice; simp only [List.length_append, List.length_take, List.length_drop]; omega
theorem splice_get (b : List UInt8) (a : Nat) (d : List UInt8) (h : a + d.length ≤ b.length) (i : Nat) : (splice b a d)[i]? = if a ≤ i ∧ i < a + d.length then d[i - a]? else b[i]? := by
  unfold splice
  have la : (b.take a).length = a := by rw [List.length_take]; omega
  by_cases h1 : i < a
  · rw [if_neg (by omega), List.append_assoc, List.getElem?_append_left (by omega), List.getElem?_take, if_pos h1]
  · rw [List.append_assoc, List.getElem?_append_right (by omega), la]
    by_cases h2 : i < a + d.length
    · rw [if_pos (by omega), List.getElem?_append_left (by omega)]
    · rw [if_neg (by omega), List.getElem?_append_right (by omega), List.getElem?_drop]
      congr 1; omega
theorem cut_len (l : List UInt8) (p : Pc) (h : p.1 + p.2 ≤ l.length) : (cut l p).length = p.2 := by
  unfold cut; rw [List.length_take, List.length_drop]; omega
theorem cut_get (l : List UInt8) (p : Pc) (j : Nat) (h : j < p.2) : (cut l p)[j]? = l[p.1 + j]? := by
  unfold cut; rw [List.getElem?_take, if_pos h, List.getElem?_drop]

/-- What is taken and put again is the text, if all else is as there. -/
theorem put_back (l : List UInt8) (n : Nat) (hl : l.length = n) : ∀ (ps : List Pc) (lo : Nat) (b : List UInt8), Asc n lo ps → b.length = n → (∀ i, (¬ ∃ p ∈ ps, InP i p) → b[i]? = l[i]?) → putGo b (take l ps) ps = l := by
  intro ps
  induction ps with
  | nil =>
    intro lo b _ _ h
    exact List.ext_getElem? fun i => h i (by rintro ⟨p, hp, _⟩; cases hp)
  | cons p r ih =>
    obtain ⟨a, s⟩ := p
    intro lo b hA hb h
    obtain ⟨h1, h2, h3, h4⟩ := hA
    have hc := cut_len l (a, s) (by show a + s ≤ _; omega)
    simp only at hc
    have e1 : (take l ((a, s) :: r)).take s = cut l (a, s) := by
      show (cut l (a, s) ++ take l r).take s = _
      rw [List.take_append_of_le_length (by omega), List.take_of_length_le (by omega)]
    have e2 : (take l ((a, s) :: r)).drop s = take l r := by
      show (cut l (a, s) ++ take l r).drop s = _
      rw [List.drop_append_of_le_length (by omega), List.drop_of_length_le (by omega), List.nil_append]
    have e3 : putGo b (take l ((a, s) :: r)) ((a, s) :: r) = putGo (splice b a ((take l ((a, s) :: r)).take s)) ((take l ((a, s) :: r)).drop s) r := rfl
    rw [e3, e1, e2]
    refine ih (a + s + 1) _ h4 (by rw [splice_len _ _ _ (by omega)]; exact hb) fun i hi => ?_
    rw [splice_get _ _ _ (by omega), hc]
    by_cases hin : a ≤ i ∧ i < a + s
    · rw [if_pos hin, cut_get l (a, s) (i - a) (by show i - a < s; omega)]
      show l[a + (i - a)]? = _
      rw [show a + (i - a) = i by omega]
    · rw [if_neg hin]
      refine h i ?_
      rintro ⟨p, hp, hip⟩
      rcases List.mem_cons.1 hp with rfl | hp
      · exact hin hip
      · exact hi ⟨p, hp, hip⟩

theorem putGo_low (n : Nat) : ∀ (ps : List Pc) (lo : Nat) (b d : List UInt8), Asc n lo ps → b.length = n → size ps = d.length → (putGo b d ps).length = n ∧ (∀ i, i < lo → (putGo b d ps)[i]? = b[i]?) ∧ (∀ i, (¬ ∃ p ∈ ps, InP i p) → (putGo b d ps)[i]? = b[i]?) ∧ take (putGo b d ps) ps = d := by
  intro ps
  induction ps with
  | nil =>
    intro lo b d _ hb hd
    have : d = [] := List.length_eq_zero_iff.1 (by simpa [size] using hd.symm)
    exact ⟨hb, fun _ _ => rfl, fun _ _ => rfl, by rw [this]; rfl⟩
  | cons p r ih =>
    obtain ⟨a, s⟩ := p
    intro lo b d hA hb hd
    obtain ⟨h1, h2, h3, h4⟩ := hA
    have hs : size ((a, s) :: r) = s + size r := by simp [size]
    have hds : (d.take s).length = s := by rw [List.length_take]; omega
    have e3 : putGo b d ((a, s) :: r) = putGo (splice b a (d.take s)) (d.drop s) r := rfl
    obtain ⟨i1, i2, i3, i4⟩ := ih (a + s + 1) (splice b a (d.take s)) (d.drop s) h4 (by rw [splice_len _ _ _ (by omega)]; exact hb) (by rw [List.length_drop]; omega)
    rw [e3]
    refine ⟨i1, fun i hi => ?_, fun i hi => ?_, ?_⟩
    · rw [i2 i (by omega), splice_get _ _ _ (by omega), if_neg (by omega)]
    · have hin : ¬ (a ≤ i ∧ i < a + s) := fun h => hi ⟨(a, s), List.mem_cons_self .., h⟩
      rw [i3 i (fun ⟨p, hp, hip⟩ => hi ⟨p, List.mem_cons_of_mem _ hp, hip⟩), splice_get _ _ _ (by omega), hds, if_neg hin]
    · show cut _ (a, s) ++ take _ r = d
      rw [i4]
      have : cut (putGo (splice b a (d.take s)) (d.drop s) r) (a, s) = d.take s := by
        apply List.ext_getElem?
        intro j
        by_cases hj : j < s
        · rw [cut_get _ (a, s) j hj]
          show (putGo _ _ r)[a + j]? = _
          rw [i2 (a + j) (by omega), splice_get _ _ _ (by omega), hds, if_pos (by omega), show a + j - a = j by omega]
        · rw [List.getElem?_eq_none (by rw [cut_len _ _ (by rw [i1]; exact h3)]; show s ≤ j; omega), List.getElem?_eq_none (by omega)]
      rw [this, List.take_append_drop]

/-! ### Two texts, the first one of whole blocks -/
theorem push_size (r : List Pc) (a n : Nat) : size (push r a n) = size r + n := by
  cases r with
  | nil => simp [push, size]
  | cons p r =>
    obtain ⟨b, s⟩ := p
    rw [push_cons]
    split <;> simp [size] <;> omega
theorem size_reverse (r : List Pc) : size r.reverse = size r := by
  unfold size; rw [List.map_reverse, List.sum_reverse]

theorem blk_left (s t : List UInt8) (st k : Nat) (h : k * st + st ≤ s.length) : blk (s ++ t) st k = blk s st k := by
  unfold blk
  rw [List.drop_append_of_le_length (by omega), List.take_append_of_le_length (by rw [List.length_drop]; omega)]
theorem blk_right (s t : List UInt8) (st q j : Nat) (h : s.length = q * st) : blk (s ++ t) st (q + j) = blk t st j := by
  unfold blk
  rw [show (q + j) * st = s.length + j * st by rw [Nat.add_mul, h], List.drop_append, List.drop_of_length_le (by omega), List.nil_append, Nat.add_sub_cancel_left]
theorem acc_left (s t : List UInt8) (st q : Nat) (h : s.length = q * st) : ∀ k, k ≤ q → acc (s ++ t) st k = acc s st k := by
  intro k
  induction k with
  | zero => intro _; rfl
  | succ k ih =>
    intro hk
    have hle : k * st + st ≤ s.length := by
      rw [h, ← Nat.succ_mul]; exact Nat.mul_le_mul_right _ hk
    simp only [acc]
    rw [ih (by omega), blk_left s t st k hle]

theorem acc_two (s t : List UInt8) (st q : Nat) (h : s.length = q * st) : ∀ j,
    size (acc (s ++ t) st (q + j)) = size (acc s st q) + size (acc t st j) ∧
    (acc (s ++ t) st (q + j)).length ≤ (acc s st q).length + (acc t st j).length ∧ (acc s st q).length + (acc t st j).length ≤ (acc (s ++ t) st (q + j)).length + 1 ∧
    (acc t st j = [] → acc (s ++ t) st (q + j) = acc s st q) ∧
    (∀ x y r, acc t st j = (x, y) :: r → ∃ u v r', acc (s ++ t) st (q + j) = (u, v) :: r' ∧ u + v = s.length + (x + y)) := by
  intro j
  induction j with
  | zero =>
    rw [Nat.add_zero, acc_left s t st q h q (Nat.le_refl _)]
    exact ⟨rfl, Nat.le_refl _, Nat.le_succ _, fun _ => rfl, fun x y r e => by cases e⟩
  | succ j ih =>
    obtain ⟨h1, h2, h3, h4, h5⟩ := ih
    have e : acc (s ++ t) st (q + (j + 1)) = if zeros (blk t st j) then acc (s ++ t) st (q + j) else push (acc (s ++ t) st (q + j)) (s.length + j * st) (blk t st j).length := by
      show acc (s ++ t) st ((q + j) + 1) = _
      simp only [acc]
      rw [blk_right s t st q j h, show (q + j) * st = s.length + j * st by rw [Nat.add_mul, h]]
    have e' : acc t st (j + 1) = if zeros (blk t st j) then acc t st j else push (acc t st j) (j * st) (blk t st j).length := rfl
    rw [e, e']
    by_cases hz : zeros (blk t st j) = true
    · rw [if_pos hz, if_pos hz]; exact ⟨h1, h2, h3, h4, h5⟩
    · rw [if_neg hz, if_neg hz, push_size, push_size]
      refine ⟨by omega, ?_⟩
      cases ht : acc t st j with
      | nil =>
        rw [ht] at h2 h3
        rw [h4 ht] at h2 h3 ⊢
        cases hs : acc s st q with
        | nil =>
          refine ⟨by simp [push], by simp [push], fun e => by simp [push] at e, fun x y r e => ?_⟩
          simp only [push, List.cons.injEq, Prod.mk.injEq] at e
          obtain ⟨⟨rfl, rfl⟩, rfl⟩ := e
          exact ⟨_, _, _, rfl, by omega⟩
        | cons p r0 =>
          obtain ⟨b, c⟩ := p
          rw [push_cons, push_nil]
          by_cases hm : b + c = s.length + j * st
          · rw [if_pos hm]
            refine ⟨by simp, by simp, fun e => by simp at e, fun x y r e => ?_⟩
            simp only [List.cons.injEq, Prod.mk.injEq] at e
            obtain ⟨⟨rfl, rfl⟩, rfl⟩ := e
            exact ⟨_, _, _, rfl, by omega⟩
          · rw [if_neg hm]
            refine ⟨by simp, by simp, fun e => by simp at e, fun x y r e => ?_⟩
            simp only [List.cons.injEq, Prod.mk.injEq] at e
            obtain ⟨⟨rfl, rfl⟩, rfl⟩ := e
            exact ⟨_, _, _, rfl, by omega⟩
      | cons p r0 =>
        obtain ⟨b, c⟩ := p
        obtain ⟨u, v, r', hc, huv⟩ := h5 b c r0 ht
        rw [ht, hc] at h2 h3
        rw [hc]
        simp only [List.length_cons] at h2 h3
        rw [push_cons, push_cons]
        by_cases hm : b + c = j * st
        · rw [if_pos hm, if_pos (by omega)]
          refine ⟨by simp only [List.length_cons]; omega, by simp only [List.length_cons]; omega, fun e => by simp at e, fun x y r e => ?_⟩
          simp only [List.cons.injEq, Prod.mk.injEq] at e
          obtain ⟨⟨rfl, rfl⟩, rfl⟩ := e
          exact ⟨_, _, _, rfl, by omega⟩
        · rw [if_neg hm, if_neg (by omega)]
          refine ⟨by simp only [List.length_cons]; omega, by simp only [List.length_cons]; omega, fun e => by simp at e, fun x y r e => ?_⟩
          simp only [List.cons.injEq, Prod.mk.injEq] at e
          obtain ⟨⟨rfl, rfl⟩, rfl⟩ := e
          exact ⟨_, _, _, rfl, by omega⟩

theorem rounds_add (q n st : Nat) (h : 1 ≤ st) : rounds (q * st + n) st = q + rounds n st := by
  unfold rounds
  rw [show q * st + n + st - 1 = (n + st - 1) + q * st by omega, Nat.add_mul_div_right _ _ h, Nat.add_comm]
theorem find_two (s t : List UInt8) (st q : Nat) (hst : 1 ≤ st) (h : s.length = q * st) :
    size (find (s ++ t) st) = size (find s st) + size (find t st) ∧ (find (s ++ t) st).length ≤ (find s st).length + (find t st).length ∧ (find s st).length + (find t st).length ≤ (find (s ++ t) st).length + 1 := by
  have e1 : rounds (s ++ t).length st = q + rounds t.length st := by rw [List.length_append, h, rounds_add q _ st hst]
  have e2 : rounds s.length st = q := by
    have := rounds_add q 0 st hst
    rw [Nat.add_zero, ← h] at this
    rw [this]
    have : rounds 0 st = 0 := by unfold rounds; exact Nat.div_eq_of_lt (by omega)
    omega
  unfold find
  rw [e1, e2, size_reverse, size_reverse, size_reverse, List.length_reverse, List.length_reverse, List.length_reverse]
  obtain ⟨h1, h2, h3, _⟩ := acc_two s t st q h (rounds t.length st)
  exact ⟨h1, h2, h3⟩

/-- a step beyond the text is as good as one of its length -/
theorem find_min (l : List UInt8) (st : Nat) (h : 1 ≤ st) : find l (min st (max l.length 1)) = find l st := by
  by_cases h1 : st ≤ max l.length 1
  · rw [Nat.min_eq_left h1]
  · have h2 : max l.length 1 < st := by omega
    rw [Nat.min_eq_right (by omega)]
    rcases Nat.eq_zero_or_pos l.length with h0 | h0
    · have e : ∀ s, 1 ≤ s → find l s = [] := fun s hs => by
        unfold find
        have : rounds l.length s = 0 := by unfold rounds; exact Nat.div_eq_of_lt (by omega)
        rw [this]; rfl
      rw [e _ (by omega), e _ h]
    · have hm : max l.length 1 = l.length := by omega
      rw [hm]
      have e : ∀ s, l.length ≤ s → find l s = (if zeros l then [] else [(0, l.length)]) := fun s hs => by
        unfold find
        have : rounds l.length s = 1 := by
          unfold rounds
          rw [show l.length + s - 1 = s * 1 + (l.length - 1) by omega, Nat.mul_add_div (by omega), Nat.div_eq_of_lt (by omega)]
        rw [this]
        have hb : blk l s 0 = l := by unfold blk; rw [Nat.zero_mul, List.drop_zero, List.take_of_length_le hs]
        simp only [acc, hb, Nat.zero_mul]
        split <;> rfl
      rw [e _ (Nat.le_refl _), e _ (by omega)]

end Hol

namespace Hol

def castP (p : Pc) : Int × Int := ((p.1 : Int), (p.2 : Int))
/-- pieces behind lo (the end of the one ahead; -1: there is none) -/
def rightGo (size : Int) : Int → List (Int × Int) → Bool
  | _, [] => true
  | lo, (a, s) :: r => if s < 1 ∨ a < 0 ∨ size < s ∨ size - s < a then false else if a ≤ lo then false else rightGo size (a + s) r
def rightI (ps : List (Int × Int)) (size : Int) : Bool := decide (0 ≤ size) && decide (ps.length ≤ 20) && rightGo size (-1) ps

theorem right_asc (n : Nat) : ∀ (ps : List (Int × Int)) (lo : Nat), rightGo n ((lo : Int) - 1) ps = true → ∃ qs : List Pc, ps = qs.map castP ∧ Asc n lo qs := by
  intro ps
  induction ps with
  | nil => intro lo _; exact ⟨[], rfl, trivial⟩
  | cons p r ih =>
    obtain ⟨a, s⟩ := p
    intro lo h
    simp only [rightGo] at h
    by_cases h1 : s < 1 ∨ a < 0 ∨ (n : Int) < s ∨ (n : Int) - s < a
    · rw [if_pos h1] at h; cases h
    · rw [if_neg h1] at h
      by_cases h2 : a ≤ (lo : Int) - 1
      · rw [if_pos h2] at h; cases h
      · rw [if_neg h2] at h
        obtain ⟨a, rfl⟩ := Int.eq_ofNat_of_zero_le (show 0 ≤ a by omega)
        obtain ⟨s, rfl⟩ := Int.eq_ofNat_of_zero_le (show 0 ≤ s by omega)
        have e : (a : Int) + (s : Int) = ((a + s + 1 : Nat) : Int) - 1 := by omega
        rw [e] at h
        obtain ⟨qs, rfl, hq⟩ := ih (a + s + 1) h
        exact ⟨(a, s) :: qs, rfl, by omega, by omega, by omega, hq⟩
theorem asc_right (n : Nat) : ∀ (qs : List Pc) (lo : Nat), Asc n lo qs → rightGo n ((lo : Int) - 1) (qs.map castP) = true := by
  intro qs
  induction qs with
  | nil => intro lo _; rfl
  | cons p r ih =>
    obtain ⟨a, s⟩ := p
    intro lo h
    obtain ⟨h1, h2, h3, h4⟩ := h
    have := ih (a + s + 1) h4
    simp only [List.map_cons, castP, rightGo]
    rw [if_neg (by omega), if_neg (by omega)]
    have e : (a : Int) + (s : Int) = ((a + s + 1 : Nat) : Int) - 1 := by omega
    rw [e]; exact this

theorem asc_size (n : Nat) : ∀ (qs : List Pc) (lo : Nat), Asc n lo qs → lo ≤ n + 1 → size qs + lo ≤ n + 1 := by
  intro qs
  induction qs with
  | nil => intro lo _ h; simpa [size] using h
  | cons p r ih =>
    obtain ⟨a, s⟩ := p
    intro lo h hlo
    obtain ⟨h1, h2, h3, h4⟩ := h
    have := ih (a + s + 1) h4 (by omega)
    have e : size ((a, s) :: r) = s + size r := by simp [size]
    omega

theorem find_asc (l : List UInt8) (st : Nat) (h : 1 ≤ st) : Asc l.length 0 (find l st) := by
  have h1 := acc_ord l st h (rounds l.length st) (Nat.le_refl _)
  have h2 := (rounds_bd l.length st h).1
  rw [Nat.min_eq_right h2] at h1
  exact h1.asc

theorem take_len (l : List UInt8) : ∀ (qs : List Pc) (lo : Nat), Asc l.length lo qs → (take l qs).length = size qs := by
  intro qs
  induction qs with
  | nil => intro _ _; rfl
  | cons p r ih =>
    obtain ⟨a, s⟩ := p
    intro lo h
    have := ih _ h.2.2.2
    have e : size ((a, s) :: r) = s + size r := by simp [size]
    show (cut l (a, s) ++ take l r).length = _
    rw [List.length_append, cut_len l (a, s) h.2.2.1, this, e]

/-- What is found, taken and put again is the text. -/
theorem back_law (l : List UInt8) (st : Nat) (h : 1 ≤ st) : put (take l (find l st)) (find l st) l.length = l := by
  refine put_back l l.length rfl (find l st) 0 _ (find_asc l st h) (List.length_replicate ..) fun i hi => ?_
  by_cases hl : i < l.length
  · rw [List.getElem?_replicate, if_pos hl, List.getElem?_eq_getElem hl]
    congr 1
    have h2 := (rounds_bd l.length st h).1
    symm
    refine acc_rest l st h (rounds l.length st) (Nat.le_refl _) i hl (by omega) fun ⟨p, hp, hip⟩ => hi ⟨p, List.mem_reverse.2 hp, hip⟩
  · rw [List.getElem?_eq_none (by rw [List.length_replicate]; omega), List.getElem?_eq_none (by omega)]

theorem each_law (l : List UInt8) (st : Nat) : ∀ p ∈ find l st, p.1 % st = 0 ∧ zeros (cut l p) = false := fun p hp =>
  acc_each l st (rounds l.length st) (Nat.le_refl _) p (List.mem_reverse.1 hp)

/-- What is put is there, and all else is 0. -/
theorem puts_law (d : List UInt8) (qs : List Pc) (n : Nat) (h : Asc n 0 qs) (hd : size qs = d.length) :
    (put d qs n).length = n ∧ take (put d qs n) qs = d ∧ ∀ i, i < n → (∃ p ∈ qs, InP i p) ∨ (put d qs n)[i]? = some 0 := by
  obtain ⟨h1, _, h3, h4⟩ := putGo_low n qs 0 (List.replicate n 0) d h (List.length_replicate ..) hd
  refine ⟨h1, h4, fun i hi => ?_⟩
  by_cases hp : ∃ p ∈ qs, InP i p
  · exact .inl hp
  · right
    show (putGo _ d qs)[i]? = _
    rw [h3 i hp, List.getElem?_replicate, if_pos hi]

end Hol

namespace Pk
open Pth Tre

/-- A member. -/
structure Ent where
  name : Bs
  kind : Nat
  mode : Int
  uid : Int
  gid : Int
  size : Int
  sec : Int
  nano : Int
  link : Bs
  user : Bs
  group : Bs
  major : Int
  minor : Int
  data : Bs
  map : List (Int × Int)
  deriving DecidableEq

def sizeI (l : List (Int × Int)) : Int := (l.map (·.2)).sum
def sparse (e : Ent) : Bool := !(e.map.isEmpty) || !((e.data.length : Int) == e.size)
def txt (s : Bs) (n : Nat) : Bool := decide (s.length ≤ n) && !(s.contains 0)
def filled (e : Ent) : Bool :=
  if e.kind = 48 then inR e.size 0 4000 && (!(sparse e) || (Hol.rightI e.map e.size && ((e.data.length : Int) == sizeI e.map)))
  else (e.size == 0) && (e.data == []) && e.map.isEmpty
/-- A valid member. -/
def rightE (e : Ent) : Bool :=
  (inR e.kind 48 54 && !(e.name == []) && !(e.name.getLast? == some 47)) &&
  (txt e.name 120 && txt e.link 120 && txt e.user 32 && txt e.group 32) &&
  (inR e.mode 0 4095 && inR e.uid 0 1099511627775 && inR e.gid 0 1099511627775 && stampR e.sec e.nano) &&
  ((!(e.link == [])) == (e.kind == 49 || e.kind == 50)) &&
  (inR e.major 0 2097151 && inR e.minor 0 2097151) &&
  ((e.kind == 51 || e.kind == 52) || (e.major == 0 && e.minor == 0)) &&
  filled e

/-- A file as a member, all of it. -/
def whole (s : Bs) (n : Nd) : Ent := ⟨s, n.kind, n.mode, n.uid, n.gid, n.data.length, n.sec, n.nano, n.link, [], [], n.major, n.minor, n.data, []⟩
def pcs (n : Nd) : List Hol.Pc := Hol.find n.data 512
/-- A file as a member. -/
def entry (s : Bs) (n : Nd) (holes : Bool) : Ent :=
  if holes = false then whole s n
  else if 20 < (pcs n).length ∨ n.data.length ≤ Hol.size (pcs n) then whole s n
  else { whole s n with map := (pcs n).map Hol.castP, data := Hol.take n.data (pcs n) }
def hard (s f : Bs) (n : Nd) : Ent := ⟨s, 49, n.mode, n.uid, n.gid, 0, n.sec, n.nano, f, [], [], 0, 0, [], []⟩
/-- The first of these names that is the same file's. -/
def first (t : T) (l : List Bs) (s : Bs) : Bs := (l.find? fun x => t.alike x s).getD []
def nodeAt (t : T) (s : Bs) : Nd := (t.get s).getD Tre.zero
def memb (t : T) (holes : Bool) (l : List Bs) (s : Bs) : Ent := if first t l s = [] then entry s (nodeAt t s) holes else hard s (first t l s) (nodeAt t s)
def listGo (t : T) (holes : Bool) : List Bs → List Bs → List Ent
  | _, [] => []
  | l, s :: r => memb t holes l s :: listGo t holes (l ++ [s]) r
/-- A tree as members. -/
def list (t : T) (holes : Bool) : List Ent := listGo t holes [] t.names

theorem listGo_len (t : T) (holes : Bool) : ∀ r l, (listGo t holes l r).length = r.length
  | [], _ => rfl
  | s :: r, l => by show (listGo t holes (l ++ [s]) r).length + 1 = r.length + 1; rw [listGo_len t holes r]
theorem list_len (t : T) (holes : Bool) : (list t holes).length = t.names.length := listGo_len _ _ _ _
theorem listGo_get (t : T) (holes : Bool) : ∀ r l (i : Nat) (h : i < r.length), (listGo t holes l r)[i]'(by rw [listGo_len]; exact h) = memb t holes (l ++ r.take i) r[i]
  | s :: r, l, 0, _ => by
    show memb t holes l s = _
    rw [List.take_zero, List.append_nil]; rfl
  | s :: r, l, i + 1, h => by
    have := listGo_get t holes r (l ++ [s]) i (by simpa using h)
    show (listGo t holes (l ++ [s]) r)[i]'_ = _
    rw [this]
    simp
theorem list_get (t : T) (holes : Bool) (i : Nat) (h : i < t.names.length) : (list t holes)[i]'(by rw [list_len]; exact h) = memb t holes (t.names.take i) t.names[i] := by
  have := listGo_get t holes t.names [] i h
  rw [List.nil_append] at this
  exact this

/-! How a member is put into a tree. -/
def linked (t : T) (e : Ent) : Bs × Int :=
  if cleanOk e.link = false then ([], 5) else if clean e.link = [] then ([], 7) else if right (clean e.link) = false then ([], 5)
  else match t.get (clean e.link) with
    | none => ([], 7)
    | some n => if n.kind = 53 then ([], 6) else (clean e.link, 0)
def mkdir (s : Bs) : Deed := ⟨1, s, [], 0, ⟨53, 493, 0, 0, 0, 0, [], [], 0, 0⟩⟩
def rmv (s : Bs) : Deed := ⟨3, s, [], 0, Tre.zero⟩
def ways (t : T) : List Bs → T × Int
  | [] => (t, 0)
  | a :: r => match t.get a with
    | none => if (act t (mkdir a)).2 ≠ 0 then act t (mkdir a) else ways (act t (mkdir a)).1 r
    | some n => if n.kind ≠ 53 then (t, 6) else ways t r
/-- The names of the directories of a name. -/
def above (s : Bs) : List Bs := (List.range ((parts s).length - 1)).map fun i => pre (parts s) (i + 1)
def wiped (t : T) (s : Bs) (dir : Bool) : T × Int := match t.get s with
  | none => (t, 0)
  | some n => if n.kind = 53 then (if dir = true then (t, 0) else (t, 6)) else act t (rmv s)
def cleared (t : T) (s : Bs) (dir : Bool) : T × Int := if (ways t (above s)).2 ≠ 0 then ways t (above s) else wiped (ways t (above s)).1 s dir
def plainN (e : Ent) : Nd := ⟨e.kind, e.mode, e.uid, e.gid, e.sec, e.nano, e.data, e.link, e.major, e.minor⟩
/-- Pieces that may be a map, as numbers. -/
def natP (l : List (Int × Int)) : List Hol.Pc := l.map fun p => (p.1.toNat, p.2.toNat)
def node (e : Ent) : Nd × Int :=
  if sparse e = false then (plainN e, 0)
  else if Hol.rightI e.map e.size = false ∨ (e.data.length : Int) ≠ sizeI e.map then (Tre.zero, 1)
  else if 4000 < e.size then (Tre.zero, 4)
  else ({ plainN e with data := Hol.put e.data (natP e.map) e.size.toNat }, 0)
def turn (what : Int) (s : Bs) (e : Ent) (n : Nd) : Deed := ⟨what, s, [], e.mode, n⟩
def turns (t : T) (s : Bs) (e : Ent) (n : Nd) : List Int → T × Int
  | [] => (t, 0)
  | c :: r => if (act t (turn c s e n)).2 ≠ 0 then act t (turn c s e n) else turns (act t (turn c s e n)).1 s e n r
def placed (t : T) (s : Bs) (e : Ent) : T × Int :=
  if (node e).2 ≠ 0 then (t, (node e).2)
  else match t.get s with
    | none => act t ⟨1, s, [], 0, (node e).1⟩
    | some _ => turns t s e (node e).1 [6, 7, 8]
def into0 (t : T) (e : Ent) : T × Int :=
  if rightE e = false then (t, 1) else if cleanOk e.name = false then (t, 5) else if clean e.name = [] ∧ e.kind = 53 then (t, 0)
  else if right (clean e.name) = false then (t, 5)
  else if e.kind ≠ 49 then
    (if (cleared t (clean e.name) (e.kind == 53)).2 ≠ 0 then cleared t (clean e.name) (e.kind == 53) else placed (cleared t (clean e.name) (e.kind == 53)).1 (clean e.name) e)
  else if (linked t e).2 ≠ 0 then (t, (linked t e).2)
  else if t.alike (clean e.name) (linked t e).1 = true then (t, 0)
  else if (cleared t (clean e.name) false).2 ≠ 0 then cleared t (clean e.name) false
  else act (cleared t (clean e.name) false).1 ⟨2, (linked t e).1, clean e.name, 0, Tre.zero⟩
/-- What Into does, and its error (0: none). -/
def into (t : T) (e : Ent) : T × Int := if (into0 t e).2 ≠ 0 then (t, (into0 t e).2) else (into0 t e).1 |> fun u => (u, 0)

theorem Std.ways {t : T} (ht : Std t) : ∀ l, Std (ways t l).1 := by
  intro l
  induction l generalizing t with
  | nil => exact ht
  | cons a r ih =>
    unfold Pk.ways
    split
    · split
      · exact ht.act _
      · exact ih (ht.act _)
    · split
      · exact ht
      · exact ih ht
theorem Std.wiped {t : T} (ht : Std t) (s : Bs) (dir : Bool) : Std (wiped t s dir).1 := by
  unfold Pk.wiped
  split
  · exact ht
  · split
    · split <;> exact ht
    · exact ht.act _
theorem Std.cleared {t : T} (ht : Std t) (s : Bs) (dir : Bool) : Std (cleared t s dir).1 := by
  unfold Pk.cleared
  split
  · exact Std.ways ht _
  · exact Std.wiped (Std.ways ht _) s dir
theorem Std.turns {t : T} (ht : Std t) (s : Bs) (e : Ent) (n : Nd) : ∀ l, Std (turns t s e n l).1 := by
  intro l
  induction l generalizing t with
  | nil => exact ht
  | cons a r ih =>
    unfold Pk.turns
    split
    · exact ht.act _
    · exact ih (ht.act _)
theorem Std.placed {t : T} (ht : Std t) (s : Bs) (e : Ent) : Std (placed t s e).1 := by
  unfold Pk.placed
  split
  · exact ht
  · split
    · exact ht.act _
    · exact Std.turns ht s e _ _
theorem Std.into0 {t : T} (ht : Std t) (e : Ent) : Std (into0 t e).1 := by
  unfold Pk.into0
  repeat' split
  all_goals first | exact ht | exact Std.cleared ht _ _ | exact Std.placed (Std.cleared ht _ _) _ _ | exact (Std.cleared ht _ _).act _
theorem Std.into {t : T} (ht : Std t) (e : Ent) : Std (into t e).1 := by
  unfold Pk.into
  split
  · exact ht
  · exact Std.into0 ht e
theorem into_err {t : T} {e : Ent} (h : (into t e).2 ≠ 0) : (into t e).1 = t := by
  unfold into at h ⊢
  split
  · rfl
  · rename_i h2
    rw [if_neg h2] at h
    exact absurd rfl h

/-- How much the numbers of files can grow. -/
theorem ways_nx : ∀ (l : List Bs) (t : T), (ways t l).1.nx ≤ t.nx + l.length
  | [], _ => Nat.le_refl _
  | a :: r, t => by
    unfold ways
    split
    · split
      · have := (act_nx t (mkdir a)).1; simp only [List.length_cons]; omega
      · have := (act_nx t (mkdir a)).1
        have := ways_nx r (act t (mkdir a)).1
        simp only [List.length_cons]; omega
    · split
      · simp only; omega
      · have := ways_nx r t; simp only [List.length_cons]; omega

/-! What the statements ask. -/
theorem first_spec {t : T} {l : List Bs} {s : Bs} (h : first t l s ≠ []) : first t l s ∈ l ∧ t.alike (first t l s) s = true := by
  unfold first at h ⊢
  cases e : l.find? fun x => t.alike x s with
  | none => rw [e] at h; exact absurd rfl h
  | some x =>
    have h2 := List.find?_some e
    exact ⟨List.mem_of_find?_eq_some e, h2⟩
theorem nodeAt_of {t : T} {s : Bs} {k : Nat} (h : look t.ents s = some k) : nodeAt t s = t.file k := by unfold nodeAt; rw [get_of h]; rfl
theorem right_name {s : Bs} (h : right s = true) : (s == []) = false ∧ (s.getLast? == some 47) = false ∧ txt s 120 = true := by
  obtain ⟨L, hL, h0, rfl, e, h1, h2, h3⟩ := right_of h
  refine ⟨beq_eq_false_iff_ne.2 (join_ne hL.ok h0), ?_, by unfold txt; rw [h3]; simp [h1]⟩
  rw [beq_eq_false_iff_ne, join_last h0]
  have hk := hL.ok _ (List.getLast_mem h0)
  have hne : L.getLast h0 ≠ [] := hk.1
  have hns : (47 : UInt8) ∉ L.getLast h0 := hk.2.2
  have key : ∀ A : Bs, (A ++ L.getLast h0).getLast? ≠ some 47 := fun A he => by
    rw [List.getLast?_append, List.getLast?_eq_some_getLast hne] at he
    have e2 : (L.getLast h0).getLast hne = 47 := by simpa using he
    exact hns (e2 ▸ List.getLast_mem hne)
  split
  · exact key []
  · have := key (join L.dropLast ++ [47])
    rwa [List.append_assoc, List.singleton_append] at this

end Pk

namespace Pk
open Pth Tre

theorem rightN_parts {n : Nd} (h : rightN n = true) : (inR n.kind 48 54 = true ∧ (n.kind == 49) = false) ∧ (inR n.mode 0 4095 = true ∧ inR n.uid 0 1099511627775 = true ∧ inR n.gid 0 1099511627775 = true ∧ stampR n.sec n.nano = true) ∧
    ((!(n.link == [])) = (n.kind == 50)) ∧ txt n.link 120 = true ∧ (inR n.major 0 2097151 = true ∧ inR n.minor 0 2097151 = true) ∧ ((n.kind == 51 || n.kind == 52) || (n.major == 0 && n.minor == 0)) = true ∧ (n.kind = 48 → n.data.length ≤ 4000) ∧ (n.kind ≠ 48 → n.data = []) := by
  unfold rightN at h
  simp only [Bool.and_eq_true, beq_iff_eq, Bool.not_eq_true'] at h
  obtain ⟨⟨⟨⟨⟨h0, h1⟩, ⟨⟨h2, h3⟩, h4⟩, h5⟩, ⟨h6, h7⟩, h8⟩, ⟨h9, h10⟩, h11⟩, h12⟩ := h
  refine ⟨⟨h0, h1⟩, ⟨h2, h3, h4, h5⟩, h6, ?_, ⟨h9, h10⟩, ?_, ?_, ?_⟩
  · unfold txt; rw [h8, h7]; rfl
  · simpa using h11
  · intro hk; rw [if_pos hk] at h12; simpa using h12
  · intro hk; rw [if_neg hk] at h12; simpa using h12

theorem castP_size (l : List Hol.Pc) : sizeI (l.map Hol.castP) = (Hol.size l : Int) := by
  induction l with
  | nil => rfl
  | cons p l ih =>
    unfold sizeI Hol.size at ih ⊢
    rw [List.map_cons, List.map_cons, List.sum_cons, List.map_cons, List.sum_cons, ih]
    simp [Hol.castP]

theorem right_whole {s : Bs} {n : Nd} (hs : right s = true) (hn : rightN n = true) : rightE (whole s n) = true := by
  obtain ⟨⟨h0, h1⟩, ⟨h2, h3, h4, h5⟩, h6, h7, ⟨h8, h9⟩, h10, h11, h12⟩ := rightN_parts hn
  obtain ⟨r1, r2, r3⟩ := right_name hs
  have hf : filled (whole s n) = true := by
    unfold filled whole
    simp only
    by_cases hk : n.kind = 48
    · rw [if_pos hk]
      have := h11 hk
      unfold sparse inR
      simp
      omega
    · rw [if_neg hk, h12 hk]; rfl
  have ht : txt ([] : Bs) 32 = true := rfl
  have hl : (n.kind == 49 || n.kind == 50) = (n.kind == 50) := by rw [h1]; rfl
  unfold rightE
  rw [hf]
  unfold whole
  simp only
  rw [h0, h2, h3, h4, h5, h6, h7, h8, h9, h10, r1, r2, r3, ht, hl]
  simp

theorem right_entry {s : Bs} {n : Nd} (hs : right s = true) (hn : rightN n = true) (holes : Bool) : rightE (entry s n holes) = true := by
  unfold entry
  by_cases hh : holes = false
  · rw [if_pos hh]; exact right_whole hs hn
  rw [if_neg hh]
  by_cases hb : 20 < (pcs n).length ∨ n.data.length ≤ Hol.size (pcs n)
  · rw [if_pos hb]; exact right_whole hs hn
  rw [if_neg hb]
  have hb1 : (pcs n).length ≤ 20 := by omega
  have hb2 : Hol.size (pcs n) < n.data.length := by omega
  obtain ⟨⟨h0, h1⟩, ⟨h2, h3, h4, h5⟩, h6, h7, ⟨h8, h9⟩, h10, h11, h12⟩ := rightN_parts hn
  obtain ⟨r1, r2, r3⟩ := right_name hs
  have hk : n.kind = 48 := Decidable.byContradiction fun hk => by rw [h12 hk] at hb2; simp at hb2
  have hd := h11 hk
  have hasc : Hol.Asc n.data.length 0 (pcs n) := Hol.find_asc n.data 512 (by omega)
  have htl : (Hol.take n.data (pcs n)).length = Hol.size (pcs n) := Hol.take_len n.data (pcs n) 0 hasc
  have hri : Hol.rightI ((pcs n).map Hol.castP) (n.data.length : Int) = true := by
    have := Hol.asc_right n.data.length (pcs n) 0 hasc
    unfold Hol.rightI
    rw [show (-1 : Int) = ((0 : Nat) : Int) - 1 by rfl, this]
    simp [hb1]
  have hf : filled { whole s n with map := (pcs n).map Hol.castP, data := Hol.take n.data (pcs n) } = true := by
    unfold filled whole
    simp only
    rw [if_pos hk, hri, castP_size, htl]
    unfold inR
    simp
    omega
  have ht : txt ([] : Bs) 32 = true := rfl
  have hl : (n.kind == 49 || n.kind == 50) = (n.kind == 50) := by rw [h1]; rfl
  unfold rightE
  rw [hf]
  unfold whole
  simp only
  rw [h0, h2, h3, h4, h5, h6, h7, h8, h9, h10, r1, r2, r3, ht, hl]
  simp

theorem right_hard {s f : Bs} {n : Nd} (hs : right s = true) (hf : right f = true) (hn : rightN n = true) : rightE (hard s f n) = true := by
  obtain ⟨⟨h0, h1⟩, ⟨h2, h3, h4, h5⟩, h6, h7, ⟨h8, h9⟩, h10, h11, h12⟩ := rightN_parts hn
  obtain ⟨r1, r2, r3⟩ := right_name hs
  obtain ⟨q1, q2, q3⟩ := right_name hf
  have ht : txt ([] : Bs) 32 = true := rfl
  have hfl : filled (hard s f n) = true := rfl
  unfold rightE
  rw [hfl]
  unfold hard
  simp only
  rw [h2, h3, h4, h5, q1, q3, r1, r2, r3, ht]
  rfl

/-- What a tree's member tells. -/
theorem memb_ok {t : T} (ht : Std t) (holes : Bool) {l : List Bs} {s : Bs} (hs : s ∈ t.names) (hl : ∀ x ∈ l, x ∈ t.names) :
    ∃ k, look t.ents s = some k ∧ (memb t holes l s).name = s ∧ rightE (memb t holes l s) = true ∧ (memb t holes l s).mode = (t.file k).mode ∧ ((memb t holes l s).kind = (t.file k).kind ∨ (memb t holes l s).kind = 49) := by
  obtain ⟨k, hk, hr, hn, _⟩ := ht.name hs
  refine ⟨k, hk, ?_⟩
  unfold memb
  rw [nodeAt_of hk]
  by_cases h : first t l s = []
  · rw [if_pos h]
    have hw : ∀ holes, (entry s (t.file k) holes).name = s ∧ (entry s (t.file k) holes).mode = (t.file k).mode ∧ (entry s (t.file k) holes).kind = (t.file k).kind := by
      intro holes
      unfold entry
      split
      · exact ⟨rfl, rfl, rfl⟩
      · split <;> exact ⟨rfl, rfl, rfl⟩
    obtain ⟨a, b, c⟩ := hw holes
    exact ⟨a, right_entry hr hn holes, b, .inl c⟩
  · rw [if_neg h]
    obtain ⟨hm, _⟩ := first_spec h
    obtain ⟨_, _, hr2, _, _⟩ := ht.name (hl _ hm)
    exact ⟨rfl, right_hard hr hr2 hn, rfl, .inr rfl⟩

/-! The fact on packing. -/
def pe1 : Ent := ⟨[97, 47, 98], 48, 0, 0, 0, 1, 0, 0, [], [], [], 0, 0, [120], []⟩
def pe2 : Ent := ⟨[99], 49, 0, 0, 0, 0, 0, 0, [97, 47, 98], [], [], 0, 0, [], []⟩
def pt1 : T := (into none_ pe1).1
def pt2 : T := (into pt1 pe2).1
set_option maxRecDepth 100000 in
theorem pr1 : (into none_ pe1).2 = 0 := by decide
set_option maxRecDepth 100000 in
theorem pg1 : pt1.ents = [([97], 1), ([97, 47, 98], 2)] := by decide
set_option maxRecDepth 100000 in
theorem pr2 : (into pt1 pe2).2 = 0 := by decide
set_option maxRecDepth 100000 in
theorem pg2 : pt2.ents = [([97], 1), ([97, 47, 98], 2), ([99], 2)] := by decide
set_option maxRecDepth 100000 in
theorem pf1 : pt2.file 1 = ⟨53, 493, 0, 0, 0, 0, [], [], 0, 0⟩ := by decide
set_option maxRecDepth 100000 in
theorem pf2 : pt2.file 2 = ⟨48, 0, 0, 0, 0, 0, [120], [], 0, 0⟩ := by decide

end Pk

namespace Pk
open Pth Tre

theorem right_ent {e : Ent} (h : rightE e = true) : e.name.length ≤ 120 ∧ e.link.length ≤ 120 ∧ e.kind ≤ 54 ∧ filled e = true := by
  unfold rightE at h
  simp only [Bool.and_eq_true] at h
  obtain ⟨⟨⟨⟨⟨⟨h0, h1⟩, h2⟩, h3⟩, h4⟩, h5⟩, h6⟩ := h
  obtain ⟨⟨k, _⟩, _⟩ := h0
  obtain ⟨⟨⟨t1, t2⟩, _⟩, _⟩ := h1
  unfold txt at t1 t2
  unfold inR at k
  simp at t1 t2 k
  exact ⟨t1.1, t2.1, by omega, h6⟩
theorem filled_sparse {e : Ent} (h : filled e = true) (hs : sparse e = true) : Hol.rightI e.map e.size = true ∧ (e.data.length : Int) = sizeI e.map ∧ e.size ≤ 4000 := by
  unfold filled at h
  by_cases hk : e.kind = 48
  · rw [if_pos hk, hs] at h
    simp [inR] at h
    exact ⟨h.2.1, h.2.2, h.1.2⟩
  · rw [if_neg hk] at h
    simp at h
    unfold sparse at hs
    rw [h.1.1, h.1.2, h.2] at hs
    cases hs
theorem sizeI_asc {ps : List (Int × Int)} {z : Int} (h : Hol.rightI ps z = true) : 0 ≤ z ∧ ∃ qs : List Hol.Pc, ps = qs.map Hol.castP ∧ Hol.Asc z.toNat 0 qs ∧ qs.length ≤ 20 ∧ sizeI ps = (Hol.size qs : Int) ∧ (Hol.size qs : Int) ≤ z + 1 := by
  unfold Hol.rightI at h
  simp only [Bool.and_eq_true, decide_eq_true_eq] at h
  obtain ⟨⟨h0, h20⟩, hg⟩ := h
  have hz : z = ((z.toNat : Nat) : Int) := by omega
  rw [hz] at hg
  obtain ⟨qs, e, ha⟩ := Hol.right_asc z.toNat ps 0 hg
  have hs := Hol.asc_size z.toNat qs 0 ha (by omega)
  refine ⟨h0, qs, e, ha, ?_, ?_, by omega⟩
  · rw [e, List.length_map] at h20; exact h20
  · rw [e]; exact castP_size qs
theorem filled_data {e : Ent} (h : filled e = true) : e.data.length ≤ 4001 ∧ e.map.length ≤ 20 := by
  by_cases hs : sparse e = true
  · obtain ⟨h1, h2, h3⟩ := filled_sparse h hs
    obtain ⟨_, qs, c1, _, c3, c4, c5⟩ := sizeI_asc h1
    have : e.map.length = qs.length := by rw [c1, List.length_map]
    omega
  · have hs' : sparse e = false := by simpa using hs
    have hd := hs'
    unfold sparse at hd
    simp only [Bool.or_eq_false_iff, Bool.not_eq_false', List.isEmpty_iff, beq_iff_eq] at hd
    rw [hd.1]
    unfold filled at h
    by_cases hk : e.kind = 48
    · rw [if_pos hk] at h
      simp [inR] at h
      simp; omega
    · rw [if_neg hk] at h
      simp at h
      rw [h.1.2]; simp
theorem node_right {e : Ent} (h : filled e = true) : (node e).2 = 0 ∧ (node e).1.kind = e.kind ∧ (node e).1.link = e.link ∧ (node e).1.data.length ≤ 4001 := by
  have hd := filled_data h
  unfold node
  by_cases hs : sparse e = false
  · rw [if_pos hs]; exact ⟨rfl, rfl, rfl, hd.1⟩
  · obtain ⟨h1, h2, h3⟩ := filled_sparse h (by simpa using hs)
    rw [if_neg hs, if_neg (by rw [h1]; simp [h2]), if_neg (by omega)]
    refine ⟨rfl, rfl, rfl, ?_⟩
    obtain ⟨h0, qs, c1, c2, c3, c4, c5⟩ := sizeI_asc h1
    have hn : natP e.map = qs := by
      rw [c1]; unfold natP
      rw [List.map_map]
      have : ((fun p : Int × Int => (p.1.toNat, p.2.toNat)) ∘ Hol.castP) = id := by funext p; simp [Hol.castP]
      rw [this, List.map_id]
    show (Hol.put e.data (natP e.map) e.size.toNat).length ≤ 4001
    rw [hn, (Hol.puts_law e.data qs e.size.toNat c2 (by omega)).1]
    omega
theorem wiped_nx (t : T) (s : Bs) (dir : Bool) : (wiped t s dir).1.nx ≤ t.nx + 1 := by
  unfold wiped
  split
  · simp only; omega
  · split
    · split <;> (simp only; omega)
    · exact (act_nx t (rmv s)).1
theorem above_len {s : Bs} (h : right s = true) : (above s).length ≤ 120 := by
  unfold above
  rw [List.length_map, List.length_range]
  have := (right_len h).2
  omega
theorem cleared_nx {t : T} {s : Bs} (h : right s = true) (dir : Bool) : (cleared t s dir).1.nx ≤ t.nx + 121 := by
  have h1 := ways_nx (above s) t
  have h2 := above_len h
  unfold cleared
  split
  · omega
  · have := wiped_nx (ways t (above s)).1 s dir
    omega
theorem turns_nx (s : Bs) (e : Ent) (n : Nd) : ∀ (l : List Int) (t : T), (turns t s e n l).1.nx ≤ t.nx + l.length
  | [], t => Nat.le_refl _
  | c :: r, t => by
    have h1 := (act_nx t (turn c s e n)).1
    unfold turns
    split
    · simp only [List.length_cons]; omega
    · have := turns_nx s e n r (act t (turn c s e n)).1
      simp only [List.length_cons]; omega
theorem placed_nx (t : T) (s : Bs) (e : Ent) : (placed t s e).1.nx ≤ t.nx + 3 := by
  unfold placed
  split
  · simp only; omega
  · split
    · have := (act_nx t ⟨1, s, [], 0, (node e).1⟩).1; omega
    · exact turns_nx s e (node e).1 [6, 7, 8] t
theorem into0_nx (t : T) (e : Ent) : (into0 t e).1.nx ≤ t.nx + 124 := by
  unfold into0
  split
  · simp only; omega
  split
  · simp only; omega
  split
  · simp only; omega
  split
  · simp only; omega
  rename_i hr
  have hr' : right (clean e.name) = true := by simpa using hr
  split
  · have h1 := cleared_nx (t := t) hr' (e.kind == 53)
    split
    · omega
    · have := placed_nx (cleared t (clean e.name) (e.kind == 53)).1 (clean e.name) e
      omega
  split
  · simp only; omega
  split
  · simp only; omega
  have h1 := cleared_nx (t := t) hr' false
  split
  · omega
  · have := (act_nx (cleared t (clean e.name) false).1 ⟨2, (linked t e).1, clean e.name, 0, Tre.zero⟩).1
    omega
theorem into_nx (t : T) (e : Ent) : (into t e).1.nx ≤ t.nx + 124 := by
  unfold into
  split
  · simp only; omega
  · exact into0_nx t e

end Pk

namespace Pk
open Pth Tre

/-- A directory has one name. -/
def Dir1 (t : T) : Prop := ∀ p ∈ t.ents, ∀ q ∈ t.ents, p.2 = q.2 → (t.file p.2).kind = 53 → p.1 = q.1

theorem act_make {u : T} {s : Bs} {n : Nd} (hn : rightN n = true) (hs : space u s = 0) : act u ⟨1, s, [], 0, n⟩ = (⟨u.ents ++ [(s, u.nx + 1)], upd u.fl (u.nx + 1) (some n), u.nx + 1⟩, 0) := by
  unfold act
  rw [if_pos rfl]
  unfold create
  simp only
  rw [if_neg (by simp [hn]), if_neg (by simp [hs])]
theorem act_again {u : T} {f s : Bs} {j : Nat} (hl : look u.ents f = some j) (hd : u.isDir f = false) (hs : space u s = 0) : act u ⟨2, f, s, 0, Tre.zero⟩ = (⟨u.ents ++ [(s, j)], u.fl, u.nx⟩, 0) := by
  unfold act
  simp only
  rw [if_neg (by omega), if_neg (by omega), hl]
  simp only
  rw [if_pos trivial]
  unfold again
  simp only
  rw [if_neg (by simp [hd]), if_neg (by simp [hs])]
theorem act_rmv {u : T} {s : Bs} {j : Nat} (hl : look u.ents s = some j) (hi : ¬ 1 < (u.inside s).length) : act u (rmv s) = (⟨u.ents.filter fun p => !(p.1 == s), if u.links s = 1 then upd u.fl j none else u.fl, u.nx⟩, 0) := by
  unfold act rmv
  simp only
  rw [if_neg (by omega), if_neg (by omega), hl]
  simp only
  rw [if_neg (by omega), if_pos trivial]
  unfold remove
  simp only
  rw [if_neg hi]
theorem act_turn {u : T} {s : Bs} {j : Nat} (hl : look u.ents s = some j) {c : Int} (hc : c = 6 ∨ c = 7 ∨ c = 8) (m : Int) (n : Nd) (hr : rightN (changed (u.file j) ⟨c, s, [], m, n⟩) = true) :
    act u ⟨c, s, [], m, n⟩ = (⟨u.ents, upd u.fl j (some (changed (u.file j) ⟨c, s, [], m, n⟩)), u.nx⟩, 0) := by
  rw [act_change hl (by simp only; omega) rfl]
  unfold change
  rw [if_neg (by simp only; omega), if_neg (by simp only; omega), if_neg (by simp [hr])]

theorem file_upd_same (u : T) (k : Nat) (n : Nd) (E : List (Bs × Nat)) (x : Nat) : T.file ⟨E, upd u.fl k (some n), x⟩ k = n := by unfold T.file upd; simp
theorem file_upd_other (u : T) {k j : Nat} (h : j ≠ k) (n : Option Nd) (E : List (Bs × Nat)) (x : Nat) : T.file ⟨E, upd u.fl k n, x⟩ j = u.file j := by unfold T.file upd; simp [h]

/-- What is known behind the names D. -/
structure Bk (t u : T) (D : List Bs) : Prop where
  st : Std u
  d1 : Dir1 u
  dn : ∀ s ∈ D, ∃ j k, look u.ents s = some j ∧ look t.ents s = some k ∧ u.file j = t.file k
  al : ∀ s ∈ D, ∀ x ∈ D, u.alike s x = t.alike s x
  su : ∀ s, u.has s = true → t.has s = true
  kd : ∀ s, s ∉ D → u.has s = true → u.isDir s = t.isDir s
  ap : ∀ s ∈ D, ∀ x, x ∉ D → u.alike s x = false

theorem Bk.none_ (t : T) : Bk t none_ [] := ⟨Std.none_, fun p hp => (by cases hp), fun s hs => (by cases hs), fun s hs => (by cases hs), fun s h => (by cases h), fun s _ h => (by cases h), fun s hs => (by cases hs)⟩

theorem look_has {t : T} {s : Bs} {k : Nat} (h : look t.ents s = some k) : t.has s = true := by unfold T.has; rw [h]; rfl
theorem has_look {t : T} {s : Bs} (h : t.has s = true) : ∃ k, look t.ents s = some k := by unfold T.has at h; exact Option.isSome_iff_exists.1 h
theorem hasnt {t : T} {s : Bs} (h : look t.ents s = none) : t.has s = false := by unfold T.has; rw [h]; rfl
theorem alike_no {t : T} {a b : Bs} (h : look t.ents b = none) : t.alike a b = false := by unfold T.alike; rw [h]; cases look t.ents a <;> rfl
theorem isDir_of {t : T} {s : Bs} {k : Nat} (h : look t.ents s = some k) : t.isDir s = ((t.file k).kind == 53) := by unfold T.isDir T.isKind; rw [get_of h]

/-- A name that is no directory's can be taken away. -/
theorem Bk.rem {t u : T} {D : List Bs} (h : Bk t u D) {s : Bs} (hs : s ∉ D) {j : Nat} (hl : look u.ents s = some j) (hk : (u.file j).kind ≠ 53) :
    ∃ u1, act u (rmv s) = (u1, 0) ∧ Bk t u1 D ∧ look u1.ents s = none := by
  have hi : ¬ 1 < (u.inside s).length := by
    have := (alone h.st (look_has hl)).2 fun p hp hin => by
      have hr := (h.st.ok p hp).1
      have hrs := (h.st.ok _ (look_mem hl)).1
      obtain ⟨i, h1, h2, e⟩ := (inn_right hr hrs).1 hin
      rcases Nat.lt_or_ge i (parts p.1).length with h3 | h3
      · have hd := h.st.up p hp i h1 h3
        rw [← e, isDir_of hl] at hd
        exact absurd (by simpa using hd) hk
      · have : i = (parts p.1).length := by omega
        simp only at e
        rw [e, this, pre_len, right_join hr]
    omega
  have ha := act_rmv hl hi
  have hst := h.st.act (rmv s)
  have e1 : (act u (rmv s)).1 = _ := congrArg Prod.fst ha
  obtain ⟨u1, hu1⟩ : ∃ u1 : T, u1 = ⟨u.ents.filter fun p => !(p.1 == s), if u.links s = 1 then upd u.fl j none else u.fl, u.nx⟩ := ⟨_, rfl⟩
  rw [← hu1] at ha e1
  rw [e1] at hst
  have hn : look u1.ents s = none := by rw [hu1]; exact look_filter_self _ _
  have hlk : ∀ x, x ≠ s → look u1.ents x = look u.ents x := fun x hx => by rw [hu1]; exact look_filter _ _ _ hx
  have hfl : ∀ x k, x ≠ s → look u.ents x = some k → u1.file k = u.file k := fun x k hx hk => by
    rw [hu1]; unfold T.file
    simp only
    rw [show (if u.links s = 1 then upd u.fl j none else u.fl) k = u.fl k from remove_file h.st.nd hl (look_mem hk) hx]
  have hal : ∀ a b, a ≠ s → b ≠ s → u1.alike a b = u.alike a b := fun a b h1 h2 => by unfold T.alike; rw [hlk a h1, hlk b h2]
  have hne : ∀ x ∈ D, x ≠ s := fun x hx e => hs (e ▸ hx)
  refine ⟨u1, ha, ⟨hst, fun p hp q hq e hd => ?_, fun x hx => ?_, fun x hx y hy => ?_, fun x hx => ?_, fun x hx hh => ?_, fun x hx y hy => ?_⟩, hn⟩
  · rw [hu1] at hp hq
    obtain ⟨p1, p2⟩ := List.mem_filter.1 hp
    obtain ⟨q1, _⟩ := List.mem_filter.1 hq
    have := hfl p.1 p.2 (by simpa using p2) (look_of h.st.nd p1)
    rw [this] at hd
    exact h.d1 p p1 q q1 e hd
  · obtain ⟨i, k, a, b, c⟩ := h.dn x hx
    exact ⟨i, k, (hlk x (hne x hx)).trans a, b, (hfl x i (hne x hx) a).trans c⟩
  · rw [hal x y (hne x hx) (hne y hy)]; exact h.al x hx y hy
  · obtain ⟨k, hk2⟩ := has_look hx
    by_cases e : x = s
    · rw [e, hn] at hk2; cases hk2
    · exact h.su x (look_has ((hlk x e).symm.trans hk2))
  · obtain ⟨k, hk2⟩ := has_look hh
    by_cases e : x = s
    · rw [e, hn] at hk2; cases hk2
    · have hk3 := (hlk x e).symm.trans hk2
      rw [isDir_of hk2, hfl x k e hk3, ← isDir_of hk3]
      exact h.kd x hx (look_has hk3)
  · by_cases e : y = s
    · rw [e]; exact alike_no hn
    · rw [hal x y (hne x hx) e]; exact h.ap x hx y hy

/-- There is room for a name of t whose directories are there. -/
theorem Bk.space {t u : T} {D : List Bs} (ht : Std t) (h : Bk t u D) {s : Bs} (hn : look u.ents s = none) {k : Nat} (hk : look t.ents s = some k) (hup : ∀ i, 1 ≤ i → i < (parts s).length → u.isDir (pre (parts s) i) = true) : space u s = 0 := by
  have hr := (ht.ok _ (look_mem hk)).1
  have hro : room u s = 0 := by
    unfold room
    rw [if_neg (by simpa using hr), if_neg (by simp [hasnt hn])]
    have hb : blocked u (parts s) = false := by
      unfold blocked
      rw [List.any_eq_false]
      intro i hi
      have hi2 := List.mem_range.1 hi
      by_cases h1 : 1 ≤ i
      · rw [hup i h1 hi2]; simp
      · simp [h1]
    rw [if_neg (by simp [hb]), if_neg]
    rintro ⟨h1, h2⟩
    have := isDir_has (hup ((parts s).length - 1) (by omega) (by omega))
    rw [this] at h2; cases h2
  have hlen : u.ents.length < 60 := by
    have h1 : (s :: u.ents.map (·.1)).Nodup := by
      rw [List.nodup_cons]
      constructor
      · intro hm
        obtain ⟨p, hp, e⟩ := List.mem_map.1 hm
        exact look_none.1 hn p hp e
      · rw [List.nodup_iff_pairwise_ne, List.pairwise_map]; exact h.st.nd
    have h2 : (s :: u.ents.map (·.1)) ⊆ t.ents.map (·.1) := by
      intro x hx
      rcases List.mem_cons.1 hx with e | hx
      · rw [e]; exact List.mem_map.2 ⟨_, look_mem hk, rfl⟩
      · obtain ⟨p, hp, rfl⟩ := List.mem_map.1 hx
        obtain ⟨k2, hk2⟩ := has_look (h.su p.1 (has_iff.2 ⟨p.2, hp⟩))
        exact List.mem_map.2 ⟨_, look_mem hk2, rfl⟩
    have := List.Nodup.length_le_of_subset h1 h2
    simp only [List.length_cons, List.length_map] at this
    have := ht.cn
    omega
  unfold Tre.space
  rw [if_neg (by simp [hro]), if_neg (by omega)]

/-- What a name more is, in both. -/
theorem Bk.snoc {t u u2 : T} {D : List Bs} (h : Bk t u D) (hst : Std u2) {s : Bs} {j k : Nat} (hn : look u.ents s = none) (hk : look t.ents s = some k)
    (he : u2.ents = u.ents ++ [(s, j)]) (hf : ∀ i, i ≤ u.nx → u2.file i = u.file i) (hj : u2.file j = t.file k)
    (hd : (u2.file j).kind = 53 → ∀ p ∈ u.ents, p.2 ≠ j) (hal : ∀ x ∈ D, ∀ i, look u.ents x = some i → (i == j) = t.alike x s) (hap : ∀ x, x ∉ D → ∀ i, look u.ents x = some i → i ≠ j) : Bk t u2 (D ++ [s]) := by
  have hls : look u2.ents s = some j := by rw [he, look_snoc, hn]; simp
  have hlk : ∀ x i, look u.ents x = some i → look u2.ents x = some i := fun x i hx => by rw [he, look_snoc, hx]; rfl
  have hln : ∀ x, x ≠ s → look u2.ents x = look u.ents x := fun x hx => by
    rw [he, look_snoc]
    cases look u.ents x with
    | none => simp [hx]
    | some i => rfl
  have hle : ∀ x i, look u.ents x = some i → i ≤ u.nx := fun x i hx => (h.st.ok _ (look_mem hx)).2.1
  refine ⟨hst, fun p hp q hq e hdd => ?_, fun x hx => ?_, fun x hx y hy => ?_, fun x hx => ?_, fun x hx hh => ?_, fun x hx y hy => ?_⟩
  · rw [he] at hp hq
    rcases List.mem_append.1 hp with hp | hp
    · rcases List.mem_append.1 hq with hq | hq
      · rw [hf p.2 (h.st.ok p hp).2.1] at hdd
        exact h.d1 p hp q hq e hdd
      · obtain rfl : q = (s, j) := by simpa using hq
        simp only at e
        rw [e] at hdd
        exact absurd e (hd hdd p hp)
    · obtain rfl : p = (s, j) := by simpa using hp
      rcases List.mem_append.1 hq with hq | hq
      · exact absurd e.symm (hd hdd q hq)
      · obtain rfl : q = (s, j) := by simpa using hq
        rfl
  · rcases List.mem_append.1 hx with hx | hx
    · obtain ⟨i, k2, a, b, c⟩ := h.dn x hx
      exact ⟨i, k2, hlk x i a, b, (hf i (hle x i a)).trans c⟩
    · rw [List.mem_singleton.1 hx]; exact ⟨j, k, hls, hk, hj⟩
  · rcases List.mem_append.1 hx with hx | hx
    · obtain ⟨i, k2, a, b, c⟩ := h.dn x hx
      rcases List.mem_append.1 hy with hy | hy
      · obtain ⟨i2, k3, a2, b2, c2⟩ := h.dn y hy
        rw [alike_of (hlk x i a) (hlk y i2 a2), ← alike_of a a2]
        exact h.al x hx y hy
      · rw [List.mem_singleton.1 hy, alike_of (hlk x i a) hls]
        exact hal x hx i a
    · rw [List.mem_singleton.1 hx]
      rcases List.mem_append.1 hy with hy | hy
      · obtain ⟨i2, k3, a2, b2, c2⟩ := h.dn y hy
        rw [alike_comm, alike_comm t, alike_of (hlk y i2 a2) hls]
        exact hal y hy i2 a2
      · rw [List.mem_singleton.1 hy, alike_of hls hls, alike_of hk hk]; simp
  · by_cases e : x = s
    · rw [e]; exact look_has hk
    · obtain ⟨i, hi⟩ := has_look hx
      rw [hln x e] at hi
      exact h.su x (look_has hi)
  · have hx2 : x ≠ s ∧ x ∉ D := ⟨fun e => hx (by simp [e]), fun e => hx (by simp [e])⟩
    obtain ⟨i, hi⟩ := has_look hh
    have hi2 := hi
    rw [hln x hx2.1] at hi2
    rw [isDir_of hi, hf i (hle x i hi2), ← isDir_of hi2]
    exact h.kd x hx2.2 (look_has hi2)
  · have hy2 : y ≠ s ∧ y ∉ D := ⟨fun e => hy (by simp [e]), fun e => hy (by simp [e])⟩
    cases hly : look u2.ents y with
    | none => exact alike_no hly
    | some i =>
      have hly2 := hly
      rw [hln y hy2.1] at hly2
      rcases List.mem_append.1 hx with hx | hx
      · obtain ⟨i0, k2, a, b, c⟩ := h.dn x hx
        rw [alike_of (hlk x i0 a) hly, ← alike_of a hly2]
        exact h.ap x hx y hy2.2
      · rw [List.mem_singleton.1 hx, alike_of hls hly]
        exact beq_eq_false_iff_ne.2 fun e => hap y hy2.2 i hly2 e.symm

theorem Bk.add {t u : T} {D : List Bs} (ht : Std t) (h : Bk t u D) {s : Bs} (hn : look u.ents s = none) {k : Nat} (hk : look t.ents s = some k) (hup : ∀ i, 1 ≤ i → i < (parts s).length → u.isDir (pre (parts s) i) = true)
    (hno : ∀ x ∈ D, t.alike x s = false) : ∃ u2, act u ⟨1, s, [], 0, t.file k⟩ = (u2, 0) ∧ Bk t u2 (D ++ [s]) := by
  obtain ⟨_, _, n, hfl, hrn⟩ := ht.ok _ (look_mem hk)
  have hrk : rightN (t.file k) = true := by unfold T.file; simp only at hfl; rw [hfl]; exact hrn
  have ha := act_make hrk (h.space ht hn hk hup)
  have hst := h.st.act ⟨1, s, [], 0, t.file k⟩
  rw [ha] at hst
  have hlt : ∀ p ∈ u.ents, p.2 ≠ u.nx + 1 := fun p hp e => by have := (h.st.ok p hp).2.1; omega
  refine ⟨_, ha, h.snoc hst hn hk rfl (fun i hi => file_upd_other u (by omega) _ _ _) (file_upd_same u _ _ _ _) (fun _ => hlt) (fun x hx i hi => ?_) (fun x _ i hi => hlt _ (look_mem hi))⟩
  rw [hno x hx]
  exact beq_eq_false_iff_ne.2 (hlt _ (look_mem hi))

theorem Bk.link {t u : T} {D : List Bs} (ht : Std t) (h : Bk t u D) {s f : Bs} (hn : look u.ents s = none) {k : Nat} (hk : look t.ents s = some k) (hup : ∀ i, 1 ≤ i → i < (parts s).length → u.isDir (pre (parts s) i) = true)
    (hf : f ∈ D) (hal : t.alike f s = true) (hd : (t.file k).kind ≠ 53) : ∃ u2, act u ⟨2, f, s, 0, Tre.zero⟩ = (u2, 0) ∧ Bk t u2 (D ++ [s]) := by
  obtain ⟨j, k2, a, b, c⟩ := h.dn f hf
  have hkk : k2 = k := by rw [alike_of b hk] at hal; simpa using hal
  subst hkk
  have hdf : u.isDir f = false := by rw [isDir_of a, c]; exact beq_eq_false_iff_ne.2 hd
  have ha := act_again a hdf (h.space ht hn hk hup)
  have hst := h.st.act ⟨2, f, s, 0, Tre.zero⟩
  rw [ha] at hst
  refine ⟨_, ha, h.snoc hst hn hk rfl (fun i hi => rfl) c (fun hd2 => absurd (by rw [← c]; exact hd2) hd) (fun x hx i hi => ?_) (fun x hx i hi e => ?_)⟩
  · rw [← alike_of hi a, h.al x hx f hf]
    unfold T.alike
    rw [b, hk]
  · have := h.ap f hf x hx
    rw [alike_of a hi] at this
    exact (beq_eq_false_iff_ne.1 this) e.symm

/-- All names done: the same contents. -/
theorem Bk.same {t u : T} {D : List Bs} (ht : Std t) (h : Bk t u D) (hD : ∀ s, t.has s = true → s ∈ D) : Same u t := by
  have hsub : ∀ p ∈ u.ents, p.1 ∈ D := fun p hp => hD _ (h.su _ (has_iff.2 ⟨p.2, hp⟩))
  refine ⟨?_, fun p hp => ?_, fun p hp q hq k l hk hl => ?_⟩
  · have nu : (u.ents.map (·.1)).Nodup := by rw [List.nodup_iff_pairwise_ne, List.pairwise_map]; exact h.st.nd
    have nt : (t.ents.map (·.1)).Nodup := by rw [List.nodup_iff_pairwise_ne, List.pairwise_map]; exact ht.nd
    have h1 := List.Nodup.length_le_of_subset nu (l₂ := t.ents.map (·.1)) fun x hx => by
      obtain ⟨p, hp, rfl⟩ := List.mem_map.1 hx
      obtain ⟨_, k, _, b, _⟩ := h.dn _ (hsub p hp)
      exact List.mem_map.2 ⟨_, look_mem b, rfl⟩
    have h2 := List.Nodup.length_le_of_subset nt (l₂ := u.ents.map (·.1)) fun x hx => by
      obtain ⟨p, hp, rfl⟩ := List.mem_map.1 hx
      obtain ⟨j, _, a, _, _⟩ := h.dn p.1 (hD _ (has_iff.2 ⟨p.2, hp⟩))
      exact List.mem_map.2 ⟨_, look_mem a, rfl⟩
    simp only [List.length_map] at h1 h2
    omega
  · obtain ⟨j, k, a, b, c⟩ := h.dn _ (hsub p hp)
    have := look_of h.st.nd hp
    rw [this] at a
    cases a
    exact ⟨k, b, c⟩
  · have := h.al _ (hsub p hp) _ (hsub q hq)
    rw [alike_of (look_of h.st.nd hp) (look_of h.st.nd hq), alike_of hk hl] at this
    constructor
    · intro e; rw [e] at this; simpa using this.symm
    · intro e; rw [e] at this; simpa using this

end Pk

namespace Pk
open Pth Tre

/-- A directory that is there takes what its member tells. -/
theorem Bk.keep {t u : T} {D : List Bs} (ht : Std t) (hd1 : Dir1 t) (h : Bk t u D) {s : Bs} (hs : s ∉ D) {j k : Nat} (hl : look u.ents s = some j) (hk : look t.ents s = some k) (hj : (u.file j).kind = 53) (hkk : (t.file k).kind = 53) (e : Ent) (hm : e.mode = (t.file k).mode) :
    ∃ u2, turns u s e (t.file k) [6, 7, 8] = (u2, 0) ∧ Bk t u2 (D ++ [s]) := by
  obtain ⟨_, _, n, hfl, hrn⟩ := ht.ok _ (look_mem hk)
  have hrk : rightN (t.file k) = true := by unfold T.file; simp only at hfl; rw [hfl]; exact hrn
  obtain ⟨_, _, n2, hfl2, hrn2⟩ := h.st.ok _ (look_mem hl)
  have hrj : rightN (u.file j) = true := by unfold T.file; simp only at hfl2; rw [hfl2]; exact hrn2
  obtain ⟨M, hM⟩ : ∃ M, M = t.file k := ⟨_, rfl⟩
  obtain ⟨B, hB⟩ : ∃ B, B = u.file j := ⟨_, rfl⟩
  rw [← hM] at hrk hkk hm ⊢
  rw [← hB] at hrj hj
  obtain ⟨q0, q1, q2, q3, q4, q5, q6, q7⟩ := rightN_parts hrk
  obtain ⟨r0, r1, r2, r3, r4, r5, r6, r7⟩ := rightN_parts hrj
  have flat : ∀ {N : Nd}, rightN N = true → N.kind = 53 → N.data = [] ∧ N.link = [] ∧ N.major = 0 ∧ N.minor = 0 := by
    intro N hN h53
    obtain ⟨_, _, a2, _, _, a5, _, a7⟩ := rightN_parts hN
    refine ⟨a7 (by omega), ?_, ?_⟩
    · rw [h53] at a2
      have e50 : ((53 : Nat) == 50) = false := rfl
      rw [e50] at a2
      simpa using a2
    · rw [h53] at a5
      have e51 : ((53 : Nat) == 51 || (53 : Nat) == 52) = false := rfl
      rw [e51] at a5
      simpa using a5
  obtain ⟨fd, fl, fm, fn⟩ := flat hrk hkk
  obtain ⟨gd, gl, gm, gn⟩ := flat hrj hj
  have mk : ∀ N : Nd, N.kind = 53 → N.data = [] → N.link = [] → N.major = 0 → N.minor = 0 → inR N.mode 0 4095 = true → inR N.uid 0 1099511627775 = true → inR N.gid 0 1099511627775 = true → stampR N.sec N.nano = true → rightN N = true := by
    intro N a b c d e f g hh i
    unfold rightN
    rw [a, b, c, d, e, f, g, hh, i]
    rfl
  have x6 : changed B (turn 6 s e M) = { B with mode := M.mode } := by unfold changed turn; simp [hm]
  have y6 : rightN (changed B (turn 6 s e M)) = true := by rw [x6]; exact mk _ hj gd gl gm gn q1.1 r1.2.1 r1.2.2.1 r1.2.2.2
  have a6 := act_turn hl (.inl rfl) e.mode M (by rw [← hB]; exact y6)
  rw [← hB] at a6
  obtain ⟨B6, hB6⟩ : ∃ B6, B6 = changed B (turn 6 s e M) := ⟨_, rfl⟩
  rw [← hB6] at x6
  obtain ⟨u6, hu6⟩ : ∃ u6 : T, u6 = ⟨u.ents, upd u.fl j (some B6), u.nx⟩ := ⟨_, rfl⟩
  have a6' : act u (turn 6 s e M) = (u6, 0) := by rw [hu6, hB6]; exact a6
  have f6 : u6.file j = B6 := by rw [hu6]; exact file_upd_same u j B6 u.ents u.nx
  have l6 : look u6.ents s = some j := by rw [hu6]; exact hl
  have x7 : changed B6 (turn 7 s e M) = { B6 with uid := M.uid, gid := M.gid } := by unfold changed turn; simp
  have y7 : rightN (changed B6 (turn 7 s e M)) = true := by rw [x7, x6]; exact mk _ hj gd gl gm gn q1.1 q1.2.1 q1.2.2.1 r1.2.2.2
  have a7 := act_turn l6 (.inr (.inl rfl)) e.mode M (by rw [f6]; exact y7)
  rw [f6] at a7
  obtain ⟨B7, hB7⟩ : ∃ B7, B7 = changed B6 (turn 7 s e M) := ⟨_, rfl⟩
  rw [← hB7] at x7
  obtain ⟨u7, hu7⟩ : ∃ u7 : T, u7 = ⟨u6.ents, upd u6.fl j (some B7), u6.nx⟩ := ⟨_, rfl⟩
  have a7' : act u6 (turn 7 s e M) = (u7, 0) := by rw [hu7, hB7]; exact a7
  have f7 : u7.file j = B7 := by rw [hu7]; exact file_upd_same u6 j B7 u6.ents u6.nx
  have l7 : look u7.ents s = some j := by rw [hu7]; exact l6
  have x8 : changed B7 (turn 8 s e M) = { B7 with sec := M.sec, nano := M.nano } := by unfold changed turn; simp
  have z8 : changed B7 (turn 8 s e M) = M := by
    rw [x8, x7, x6]
    obtain ⟨b0, b1, b2, b3, b4, b5, b6, b7, b8, b9⟩ := B
    obtain ⟨c0, c1, c2, c3, c4, c5, c6, c7, c8, c9⟩ := M
    simp only at *
    subst hj gd gl gm gn hkk fd fl fm fn
    rfl
  have a8 := act_turn l7 (.inr (.inr rfl)) e.mode M (by rw [f7]; show rightN (changed B7 (turn 8 s e M)) = true; rw [z8]; exact hrk)
  rw [f7] at a8
  obtain ⟨u8, hu8⟩ : ∃ u8 : T, u8 = ⟨u7.ents, upd u7.fl j (some M), u7.nx⟩ := ⟨_, rfl⟩
  have a8' : act u7 (turn 8 s e M) = (u8, 0) := by
    rw [hu8]
    have : act u7 (turn 8 s e M) = (⟨u7.ents, upd u7.fl j (some (changed B7 (turn 8 s e M))), u7.nx⟩, 0) := a8
    rw [this, z8]
  have hst : Std u8 := by
    have h1 := h.st.act (turn 6 s e M)
    rw [a6'] at h1
    have h2 := h1.act (turn 7 s e M)
    rw [a7'] at h2
    have h3 := h2.act (turn 8 s e M)
    rw [a8'] at h3
    exact h3
  have he : u8.ents = u.ents := by rw [hu8, hu7, hu6]
  have hfj : u8.file j = M := by rw [hu8]; exact file_upd_same u7 j M u7.ents u7.nx
  have hfo : ∀ i, i ≠ j → u8.file i = u.file i := fun i hi => by
    rw [hu8, file_upd_other u7 hi, hu7, file_upd_other u6 hi, hu6, file_upd_other u hi]
  have hlk : ∀ x, look u8.ents x = look u.ents x := fun x => by rw [he]
  have hkind : ∀ i, (u8.file i).kind = (u.file i).kind := fun i => by
    by_cases e2 : i = j
    · rw [e2, hfj, ← hB, hkk, hj]
    · rw [hfo i e2]
  have hal : ∀ a b, u8.alike a b = u.alike a b := fun a b => by unfold T.alike; rw [he]
  have hone : ∀ x ∈ D, u.alike x s = false := fun x hx => h.ap x hx s hs
  have tone : ∀ x, x ≠ s → t.alike x s = false := fun x hx => by
    cases hlx : look t.ents x with
    | none => rw [alike_comm]; exact alike_no hlx
    | some i =>
      rw [alike_of hlx hk]
      refine beq_eq_false_iff_ne.2 fun e2 => hx ?_
      exact hd1 _ (look_mem hlx) _ (look_mem hk) e2 (by simp only; rw [e2, ← hM]; exact hkk)
  refine ⟨u8, ?_, ⟨hst, fun p hp q hq e2 hdd => ?_, fun x hx => ?_, fun x hx y hy => ?_, fun x hx => ?_, fun x hx hh => ?_, fun x hx y hy => ?_⟩⟩
  · unfold turns
    rw [if_neg (by rw [a6']; simp), a6']
    simp only
    unfold turns
    rw [if_neg (by rw [a7']; simp), a7']
    simp only
    unfold turns
    rw [if_neg (by rw [a8']; simp), a8']
    rfl
  · rw [he] at hp hq
    rw [hkind] at hdd
    exact h.d1 p hp q hq e2 hdd
  · rcases List.mem_append.1 hx with hx | hx
    · obtain ⟨i, k2, a, b, c⟩ := h.dn x hx
      refine ⟨i, k2, (hlk x).trans a, b, (hfo i fun e2 => ?_).trans c⟩
      have := hone x hx
      rw [alike_of a hl, e2] at this
      simp at this
    · rw [List.mem_singleton.1 hx]; exact ⟨j, k, (hlk s).trans hl, hk, by rw [hfj, hM]⟩
  · rw [hal]
    rcases List.mem_append.1 hx with hx | hx
    · rcases List.mem_append.1 hy with hy | hy
      · exact h.al x hx y hy
      · rw [List.mem_singleton.1 hy, hone x hx, tone x fun e2 => hs (e2 ▸ hx)]
    · rw [List.mem_singleton.1 hx]
      rcases List.mem_append.1 hy with hy | hy
      · rw [alike_comm, hone y hy, alike_comm, tone y fun e2 => hs (e2 ▸ hy)]
      · rw [List.mem_singleton.1 hy, alike_of hl hl, alike_of hk hk]; simp
  · refine h.su x ?_
    unfold T.has at hx ⊢
    rw [he] at hx; exact hx
  · have hx2 : x ∉ D := fun e2 => hx (by simp [e2])
    have hh2 : u.has x = true := by unfold T.has at hh ⊢; rw [he] at hh; exact hh
    obtain ⟨i, hi⟩ := has_look hh2
    have hi8 := (hlk x).trans hi
    rw [isDir_of hi8, hkind, ← isDir_of hi]
    exact h.kd x hx2 hh2
  · have hy2 : y ≠ s ∧ y ∉ D := ⟨fun e2 => hy (by simp [e2]), fun e2 => hy (by simp [e2])⟩
    rw [hal]
    rcases List.mem_append.1 hx with hx | hx
    · exact h.ap x hx y hy2.2
    · rw [List.mem_singleton.1 hx]
      cases hly : look u.ents y with
      | none => exact alike_no hly
      | some i =>
        rw [alike_of hl hly]
        refine beq_eq_false_iff_ne.2 fun e2 => hy2.1 ?_
        exact (h.d1 _ (look_mem hl) _ (look_mem hly) e2 (by simp only; rw [← hB]; exact hj)).symm

end Pk

namespace Pk
open Pth Tre

theorem right_clean {s : Bs} (h : right s = true) : cleanOk s = true ∧ clean s = s := by
  have := cl_clean (right_cl h).1
  rw [right_join h] at this
  exact ⟨by unfold cleanOk; rw [this], by unfold clean; rw [this]; exact right_join h⟩
theorem ways_ok {u : T} : ∀ {l : List Bs}, (∀ a ∈ l, u.isDir a = true) → ways u l = (u, 0)
  | [], _ => rfl
  | a :: r, h => by
    obtain ⟨k, hk, hd⟩ := isDir_iff.1 (h a (List.mem_cons_self ..))
    unfold ways
    rw [get_of hk]
    simp only
    rw [if_neg (by simp [hd])]
    exact ways_ok fun x hx => h x (List.mem_cons_of_mem _ hx)
theorem natP_cast (l : List Hol.Pc) : natP (l.map Hol.castP) = l := by
  unfold natP
  rw [List.map_map]
  have : ((fun p : Int × Int => (p.1.toNat, p.2.toNat)) ∘ Hol.castP) = id := by
    funext p; simp [Hol.castP]
  rw [this, List.map_id]
theorem node_whole (s : Bs) (n : Nd) : node (whole s n) = (n, 0) := by
  unfold node
  rw [if_pos]
  · rfl
  · unfold sparse whole; simp
theorem node_entry {s : Bs} {n : Nd} (hn : rightN n = true) (holes : Bool) : node (entry s n holes) = (n, 0) := by
  unfold entry
  by_cases hh : holes = false
  · rw [if_pos hh]; exact node_whole s n
  rw [if_neg hh]
  by_cases hb : 20 < (pcs n).length ∨ n.data.length ≤ Hol.size (pcs n)
  · rw [if_pos hb]; exact node_whole s n
  rw [if_neg hb]
  have hb1 : (pcs n).length ≤ 20 := by omega
  have hb2 : Hol.size (pcs n) < n.data.length := by omega
  obtain ⟨_, _, _, _, _, _, h11, h12⟩ := rightN_parts hn
  have hk : n.kind = 48 := Decidable.byContradiction fun hk => by rw [h12 hk] at hb2; simp at hb2
  have hd := h11 hk
  have hasc : Hol.Asc n.data.length 0 (pcs n) := Hol.find_asc n.data 512 (by omega)
  have htl : (Hol.take n.data (pcs n)).length = Hol.size (pcs n) := Hol.take_len n.data (pcs n) 0 hasc
  have hri : Hol.rightI ((pcs n).map Hol.castP) (n.data.length : Int) = true := by
    have := Hol.asc_right n.data.length (pcs n) 0 hasc
    unfold Hol.rightI
    rw [show (-1 : Int) = ((0 : Nat) : Int) - 1 by rfl, this]
    simp [hb1]
  have hback := Hol.back_law n.data 512 (by omega)
  unfold node
  have hsp : sparse { whole s n with map := (pcs n).map Hol.castP, data := Hol.take n.data (pcs n) } = true := by
    unfold sparse whole
    simp only
    rw [htl]
    have : ((Hol.size (pcs n) : Int) == (n.data.length : Int)) = false := beq_eq_false_iff_ne.2 (by omega)
    rw [this]; simp
  rw [if_neg (by rw [hsp]; simp)]
  unfold whole
  simp only
  rw [hri, castP_size, htl, if_neg (by simp), if_neg (by omega), natP_cast]
  unfold plainN
  simp only
  rw [Int.toNat_natCast]
  unfold pcs
  rw [hback]

theorem entry_same (s : Bs) (n : Nd) (holes : Bool) : (entry s n holes).name = s ∧ (entry s n holes).mode = n.mode ∧ (entry s n holes).kind = n.kind := by
  unfold entry
  split
  · exact ⟨rfl, rfl, rfl⟩
  · split <;> exact ⟨rfl, rfl, rfl⟩

theorem first_none {t : T} {l : List Bs} {s : Bs} (h : first t l s = []) (hl : ∀ x ∈ l, x ≠ []) : ∀ x ∈ l, t.alike x s = false := by
  unfold first at h
  cases e : l.find? fun x => t.alike x s with
  | none =>
    intro x hx
    have := List.find?_eq_none.1 e x hx
    simpa using this
  | some y =>
    rw [e] at h
    exact absurd h (hl y (List.mem_of_find?_eq_some e))

theorem Bk.step {t u : T} {D : List Bs} (ht : Std t) (hd1 : Dir1 t) (h : Bk t u D) {s : Bs} (hs : s ∉ D) (hts : t.has s = true) (hpre : ∀ i, 1 ≤ i → i < (parts s).length → pre (parts s) i ∈ D) (hD : ∀ x ∈ D, t.has x = true) (holes : Bool) :
    ∃ u2, into u (memb t holes D s) = (u2, 0) ∧ Bk t u2 (D ++ [s]) := by
  obtain ⟨k, hk⟩ := has_look hts
  obtain ⟨hr, _, n, hfl, hrn⟩ := ht.ok _ (look_mem hk)
  simp only at hr hfl
  have hrk : rightN (t.file k) = true := by unfold T.file; rw [hfl]; exact hrn
  have hup : ∀ i, 1 ≤ i → i < (parts s).length → u.isDir (pre (parts s) i) = true := fun i h1 h2 => by
    obtain ⟨j, k2, a, b, c⟩ := h.dn _ (hpre i h1 h2)
    have hd := ht.up _ (look_mem hk) i h1 h2
    simp only at hd
    rw [isDir_of b] at hd
    rw [isDir_of a, c]; exact hd
  have hw : ways u (above s) = (u, 0) := ways_ok fun a ha => by
    unfold above at ha
    obtain ⟨i, hi, rfl⟩ := List.mem_map.1 ha
    have := List.mem_range.1 hi
    exact hup (i + 1) (by omega) (by omega)
  obtain ⟨ck, ce⟩ := right_clean hr
  have hsne := right_ne hr
  have hclear : ∀ dir : Bool, ((t.file k).kind = 53 → dir = true) →
      (∃ u1, cleared u s dir = (u1, 0) ∧ Bk t u1 D ∧ look u1.ents s = none ∧ ∀ i, 1 ≤ i → i < (parts s).length → u1.isDir (pre (parts s) i) = true) ∨
      (∃ j, cleared u s dir = (u, 0) ∧ look u.ents s = some j ∧ (u.file j).kind = 53 ∧ (t.file k).kind = 53) := by
    intro dir hdir
    have hcl : cleared u s dir = wiped u s dir := by unfold cleared; rw [if_neg (by rw [hw]; simp), hw]
    rw [hcl]
    cases hl : look u.ents s with
    | none =>
      left
      refine ⟨u, ?_, h, hl, hup⟩
      unfold wiped T.get
      rw [hl]; rfl
    | some j =>
      have hkd := h.kd s hs (look_has hl)
      rw [isDir_of hl, isDir_of hk] at hkd
      by_cases h53 : (u.file j).kind = 53
      · right
        have hk53 : (t.file k).kind = 53 := by rw [h53] at hkd; simpa using hkd.symm
        refine ⟨j, ?_, rfl, h53, hk53⟩
        unfold wiped
        rw [get_of hl]
        simp only
        rw [if_pos h53, if_pos (hdir hk53)]
      · left
        obtain ⟨u1, a, b, c⟩ := h.rem hs hl h53
        refine ⟨u1, ?_, b, c, fun i h1 h2 => ?_⟩
        · unfold wiped
          rw [get_of hl]
          simp only
          rw [if_neg h53]; exact a
        · obtain ⟨j2, k2, a2, b2, c2⟩ := b.dn _ (hpre i h1 h2)
          have hd := ht.up _ (look_mem hk) i h1 h2
          simp only at hd
          rw [isDir_of b2] at hd
          rw [isDir_of a2, c2]; exact hd
  by_cases hf : first t D s = []
  · have hno := first_none hf fun x hx => by
      obtain ⟨kx, hkx⟩ := has_look (hD x hx)
      exact right_ne (ht.ok _ (look_mem hkx)).1
    have he : memb t holes D s = entry s (t.file k) holes := by unfold memb; rw [if_pos hf, nodeAt_of hk]
    rw [he]
    obtain ⟨e1, e2, e3⟩ := entry_same s (t.file k) holes
    have e4 := right_entry hr hrk holes
    have e5 := node_entry (s := s) hrk holes
    obtain ⟨e, hee⟩ : ∃ e, e = entry s (t.file k) holes := ⟨_, rfl⟩
    rw [← hee] at e1 e2 e3 e4 e5 ⊢
    have hk49 : (t.file k).kind ≠ 49 := by
      have := (rightN_parts hrk).1.2
      simpa using this
    have hgo : ∀ u2, (∃ u1, cleared u s (e.kind == 53) = (u1, 0) ∧ placed u1 s e = (u2, 0)) → into u e = (u2, 0) := by
      rintro u2 ⟨u1, a, b⟩
      have h0 : into0 u e = (u2, 0) := by
        unfold into0
        rw [e1, ck, ce, if_neg (by simp [e4]), if_neg (by simp), if_neg (by simp [hsne]), if_neg (by simp [hr]), if_pos (by rw [e3]; exact hk49), a, if_neg (by simp)]
        exact b
      unfold into
      rw [h0, if_neg (by simp)]
    rcases hclear (e.kind == 53) (fun h53 => by rw [e3, h53]; rfl) with ⟨u1, a, b, c, d⟩ | ⟨j, a, b, c, d⟩
    · obtain ⟨u2, ha, hb⟩ := b.add ht c hk d hno
      refine ⟨u2, hgo u2 ⟨u1, a, ?_⟩, hb⟩
      unfold placed
      rw [e5, if_neg (by simp)]
      simp only
      have : u1.get s = none := by unfold T.get; rw [c]; rfl
      rw [this]
      exact ha
    · obtain ⟨u2, ha, hb⟩ := h.keep ht hd1 hs b hk c d e e2
      refine ⟨u2, hgo u2 ⟨u, a, ?_⟩, hb⟩
      unfold placed
      rw [e5, if_neg (by simp)]
      simp only
      rw [get_of b]
      exact ha
  · obtain ⟨hfD, hfa⟩ := first_spec hf
    have he : memb t holes D s = hard s (first t D s) (t.file k) := by unfold memb; rw [if_neg hf, nodeAt_of hk]
    rw [he]
    obtain ⟨f, hfe⟩ : ∃ f, f = first t D s := ⟨_, rfl⟩
    rw [← hfe] at hfD hfa ⊢
    obtain ⟨kf, hkf⟩ := has_look (hD f hfD)
    have hrf := (ht.ok _ (look_mem hkf)).1
    simp only at hrf
    have hkk : kf = k := by rw [alike_of hkf hk] at hfa; simpa using hfa
    subst hkk
    have hne : f ≠ s := fun e => hs (e ▸ hfD)
    have hnd : (t.file kf).kind ≠ 53 := fun h53 => hne (hd1 _ (look_mem hkf) _ (look_mem hk) rfl h53)
    obtain ⟨cf, cfe⟩ := right_clean hrf
    obtain ⟨jf, kf2, a, b, c⟩ := h.dn f hfD
    rw [hkf] at b; cases b
    have hlink : linked u (hard s f (t.file kf)) = (f, 0) := by
      unfold linked hard
      simp only
      rw [cf, cfe, if_neg (by simp), if_neg (right_ne hrf), if_neg (by simp [hrf]), get_of a]
      simp only
      rw [if_neg (by rw [c]; exact hnd)]
    have hua : u.alike s f = false := by
      cases hl : look u.ents s with
      | none => rw [alike_comm]; exact alike_no hl
      | some j => rw [alike_comm]; exact h.ap f hfD s hs
    rcases hclear false (fun h53 => absurd h53 hnd) with ⟨u1, a1, b1, c1, d1⟩ | ⟨j, _, _, _, d⟩
    · obtain ⟨u2, ha, hb⟩ := b1.link ht c1 hk d1 hfD hfa hnd
      refine ⟨u2, ?_, hb⟩
      have h0 : into0 u (hard s f (t.file kf)) = (u2, 0) := by
        unfold into0
        rw [right_hard hr hrf hrk, hlink]
        show (if true = false then _ else if cleanOk s = false then _ else if clean s = [] ∧ (49 : Nat) = 53 then _ else if right (clean s) = false then _ else if (49 : Nat) ≠ 49 then _ else if ((f, (0 : Int))).2 ≠ 0 then _ else if u.alike (clean s) f = true then _ else if (cleared u (clean s) false).2 ≠ 0 then _ else act (cleared u (clean s) false).1 ⟨2, f, clean s, 0, Tre.zero⟩) = _
        rw [ck, ce, if_neg (by simp), if_neg (by simp), if_neg (by simp), if_neg (by simp [hr]), if_neg (by simp), if_neg (by simp), if_neg (by simp [hua]), a1, if_neg (by simp)]
        exact ha
      unfold into
      rw [h0, if_neg (by simp)]
    · exact absurd d hnd

/-- What All does: the tree, and each error with its place. -/
def allGo (t : T) : Nat → List Ent → T × List (Nat × Int)
  | _, [] => (t, [])
  | i, e :: r => ((allGo (into t e).1 (i + 1) r).1, (if (into t e).2 ≠ 0 then [(i, (into t e).2)] else []) ++ (allGo (into t e).1 (i + 1) r).2)
def all (t : T) (l : List Ent) : T × List (Nat × Int) := allGo t 0 l

theorem Bk.go {t : T} (ht : Std t) (hd1 : Dir1 t) (holes : Bool) : ∀ (r D : List Bs) (u : T) (i : Nat), Bk t u D → (D ++ r) = t.names → ∃ u2, allGo u i (listGo t holes D r) = (u2, []) ∧ Bk t u2 t.names
  | [], D, u, i, h, e => by
    rw [List.append_nil] at e
    exact ⟨u, rfl, e ▸ h⟩
  | s :: r, D, u, i, h, e => by
    have hmem : ∀ x, x ∈ t.names ↔ x ∈ D ∨ x = s ∨ x ∈ r := fun x => by rw [← e]; simp
    have hnd : (D ++ s :: r).Nodup := e ▸ names_nodup ht.nd
    have hs : s ∉ D := fun hx => by
      have := (List.nodup_append.1 hnd).2.2 s hx s (List.mem_cons_self ..)
      exact this rfl
    have hts : t.has s = true := names_mem.1 ((hmem s).2 (.inr (.inl rfl)))
    have hD : ∀ x ∈ D, t.has x = true := fun x hx => names_mem.1 ((hmem x).2 (.inl hx))
    obtain ⟨k, hk⟩ := has_look hts
    have hr := (ht.ok _ (look_mem hk)).1
    simp only at hr
    have hpre : ∀ i, 1 ≤ i → i < (parts s).length → pre (parts s) i ∈ D := fun i h1 h2 => by
      have hin : pre (parts s) i ∈ t.names := names_mem.2 (isDir_has (ht.up _ (look_mem hk) i h1 h2))
      have hlt : cmp (parts (pre (parts s) i)) (parts s) < 0 := by
        rw [parts_pre (right_cl hr).1]
        have := cmp_pre ((parts s).take i) ((parts s).drop i) (List.ne_nil_of_length_pos (by rw [List.length_drop]; omega))
        rwa [List.take_append_drop] at this
      rcases (hmem _).1 hin with h3 | h3 | h3
      · exact h3
      · rw [h3] at hlt
        have := (cmp_zero (parts s) (parts s)).2 rfl
        omega
      · have hsort := names_sorted t
        rw [← e] at hsort
        have h4 := (List.pairwise_append.1 hsort).2.1
        have h5 := (List.pairwise_cons.1 h4).1 _ h3
        have := (cmp_anti _ _).1 hlt
        omega
    obtain ⟨u1, a, b⟩ := h.step ht hd1 hs hts hpre hD holes
    obtain ⟨u2, c, d⟩ := Bk.go ht hd1 holes r (D ++ [s]) u1 (i + 1) b (by rw [List.append_assoc]; exact e)
    refine ⟨u2, ?_, d⟩
    show ((allGo (into u (memb t holes D s)).1 (i + 1) (listGo t holes (D ++ [s]) r)).1, _) = _
    rw [a]
    simp only
    rw [c, if_neg (by simp)]
    rfl

/-- From any tree that may stand: its members make t. -/
theorem all_makes {t u : T} (ht : Std t) (hd1 : Dir1 t) (h : Bk t u []) (holes : Bool) : ∃ u2, all u (list t holes) = (u2, []) ∧ Same u2 t ∧ Bk t u2 t.names := by
  obtain ⟨u2, a, b⟩ := Bk.go ht hd1 holes t.names [] u 0 h rfl
  exact ⟨u2, a, b.same ht fun s hs => names_mem.2 hs, b⟩
/-- What t's members have made is a tree from which they make it again. -/
theorem Bk.again {t u : T} (h : Bk t u t.names) : Bk t u [] := ⟨h.st, h.d1, fun s hs => (by cases hs), fun s hs => (by cases hs), h.su, fun s _ hh => by
  obtain ⟨j, k, a, b, c⟩ := h.dn s (names_mem.2 (h.su s hh))
  rw [isDir_of a, isDir_of b, c], fun s hs => (by cases hs)⟩

end Pk

namespace Pk
open Pth Tre

theorem Dir1.none_ : Dir1 none_ := fun p hp => by cases hp
theorem Dir1.act {t : T} (ht : Std t) (h : Dir1 t) (x : Deed) : Dir1 (act t x).1 := by
  have hadd : ∀ (s : Bs) (k nx : Nat) (fl : Nat → Option Nd), (∀ p ∈ t.ents, T.file ⟨t.ents ++ [(s, k)], fl, nx⟩ p.2 = t.file p.2) → ((T.file ⟨t.ents ++ [(s, k)], fl, nx⟩ k).kind = 53 → ∀ p ∈ t.ents, p.2 ≠ k) → Dir1 ⟨t.ents ++ [(s, k)], fl, nx⟩ := by
    intro s k nx fl h1 h2 p hp q hq e hd
    simp only at hp hq
    rcases List.mem_append.1 hp with hp | hp
    · rcases List.mem_append.1 hq with hq | hq
      · rw [h1 p hp] at hd
        exact h p hp q hq e hd
      · obtain rfl : q = (s, k) := by simpa using hq
        simp only at e
        rw [e] at hd
        exact absurd e (h2 hd p hp)
    · obtain rfl : p = (s, k) := by simpa using hp
      rcases List.mem_append.1 hq with hq | hq
      · exact absurd e.symm (h2 hd q hq)
      · obtain rfl : q = (s, k) := by simpa using hq
        rfl
  unfold Tre.act
  split
  · unfold create
    split
    · exact h
    · split
      · exact h
      · have hlt : ∀ p ∈ t.ents, p.2 ≠ t.nx + 1 := fun p hp e => by have := (ht.ok p hp).2.1; omega
        refine hadd _ _ _ _ (fun p hp => file_upd_other t (hlt p hp) _ _ _) fun _ => hlt
  · split
    · exact h
    · cases hl : look t.ents x.name with
      | none => exact h
      | some i =>
        simp only
        split
        · unfold again
          split
          · exact h
          · split
            · exact h
            · rename_i h1 _
              refine hadd _ _ _ _ (fun p hp => rfl) fun hd => ?_
              have h2 : t.isDir x.name = false := by simpa using h1
              rw [isDir_of hl] at h2
              exact absurd (show (t.file i).kind = 53 from hd) (by simpa using h2)
        · split
          · unfold remove
            split
            · exact h
            · intro p hp q hq e hd
              simp only at hp hq
              obtain ⟨p1, p2⟩ := List.mem_filter.1 hp
              obtain ⟨q1, _⟩ := List.mem_filter.1 hq
              refine h p p1 q q1 e ?_
              unfold T.file at hd ⊢
              simp only at hd
              rw [show (if t.links x.name = 1 then upd t.fl i none else t.fl) p.2 = t.fl p.2 from remove_file ht.nd hl p1 (by simpa using p2)] at hd
              exact hd
          · split
            · unfold move
              split
              · exact h
              · split
                · exact h
                · split
                  · exact h
                  · intro p hp q hq e hd
                    simp only at hp hq
                    obtain ⟨p0, p1, rfl⟩ := List.mem_map.1 hp
                    obtain ⟨q0, q1, rfl⟩ := List.mem_map.1 hq
                    rw [ren_snd, ren_snd] at e
                    have hd2 : (t.file p0.2).kind = 53 := by rw [ren_snd] at hd; exact hd
                    have e1 := h p0 p1 q0 q1 e hd2
                    have : p0 = q0 := Prod.ext e1 e
                    rw [this]
            · unfold change
              split
              · exact h
              · split
                · exact h
                · split
                  · exact h
                  · intro p hp q hq e hd
                    simp only at hp hq
                    refine h p hp q hq e ?_
                    by_cases e2 : p.2 = i
                    · rw [e2, file_upd_same, changed_kind] at hd
                      rw [e2]; exact hd
                    · rw [file_upd_other t e2] at hd; exact hd
theorem Dir1.plant (l : List Deed) : ∀ {t : T}, Std t → Dir1 t → Dir1 (l.foldl (fun t x => (Tre.act t x).1) t) := by
  induction l with
  | nil => intro t _ h; exact h
  | cons x l ih => intro t ht h; exact ih (ht.act x) (h.act ht x)
theorem plant_dir1 (l : List Deed) : Dir1 (plant l) := Dir1.plant l Std.none_ Dir1.none_

/-- The law of PackBack, and of PackHoles. -/
theorem back_twice {t : T} (ht : Std t) (hd : Dir1 t) (holes : Bool) : ∃ u v, all none_ (list t holes) = (u, []) ∧ Same u t ∧ all u (list t holes) = (v, []) ∧ Same v t := by
  obtain ⟨u, a, b, c⟩ := all_makes ht hd (Bk.none_ t) holes
  obtain ⟨v, a2, b2, _⟩ := all_makes ht hd c.again holes
  exact ⟨u, v, a, b, a2, b2⟩
theorem Same.symm {t u : T} (ht : Apart t.ents) (hu : Apart u.ents) (h : Same t u) : Same u t := by
  obtain ⟨h1, h2, h3⟩ := h
  have nt : (t.ents.map (·.1)).Nodup := by rw [List.nodup_iff_pairwise_ne, List.pairwise_map]; exact ht
  have hall : ∀ q ∈ u.ents, ∃ i, look t.ents q.1 = some i := fun q hq => by
    cases hl : look t.ents q.1 with
    | some i => exact ⟨i, rfl⟩
    | none =>
      exfalso
      have hn : (q.1 :: t.ents.map (·.1)).Nodup := by
        rw [List.nodup_cons]
        refine ⟨fun hm => ?_, nt⟩
        obtain ⟨p, hp, e⟩ := List.mem_map.1 hm
        exact look_none.1 hl p hp e
      have := List.Nodup.length_le_of_subset hn (l₂ := u.ents.map (·.1)) fun x hx => by
        rcases List.mem_cons.1 hx with e | hx
        · rw [e]; exact List.mem_map.2 ⟨q, hq, rfl⟩
        · obtain ⟨p, hp, rfl⟩ := List.mem_map.1 hx
          obtain ⟨k, hk, _⟩ := h2 p hp
          exact List.mem_map.2 ⟨_, look_mem hk, rfl⟩
      simp only [List.length_cons, List.length_map] at this
      omega
  refine ⟨h1.symm, fun q hq => ?_, fun q hq r hr i j hi hj => ?_⟩
  · obtain ⟨i, hi⟩ := hall q hq
    obtain ⟨k, hk, e⟩ := h2 _ (look_mem hi)
    simp only at hk e
    rw [look_of hu hq] at hk
    cases hk
    exact ⟨i, hi, e.symm⟩
  · exact (h3 _ (look_mem hi) _ (look_mem hj) q.2 r.2 (look_of hu hq) (look_of hu hr)).symm
theorem Same.trans {t u v : T} (h : Same t u) (k : Same u v) : Same t v := by
  refine ⟨h.1.trans k.1, fun p hp => ?_, fun p hp q hq i j hi hj => ?_⟩
  · obtain ⟨a, ha, e⟩ := h.2.1 p hp
    obtain ⟨b, hb, e2⟩ := k.2.1 _ (look_mem ha)
    exact ⟨b, hb, e.trans e2⟩
  · obtain ⟨a, ha, _⟩ := h.2.1 p hp
    obtain ⟨b, hb, _⟩ := h.2.1 q hq
    rw [h.2.2 p hp q hq a b ha hb]
    exact k.2.2 _ (look_mem ha) _ (look_mem hb) i j hi hj

end Pk

namespace Pk
open Pth Tre

def bytesE (e : Ent) : Bs := if sparse e = false then e.data else if Hol.rightI e.map e.size = false ∨ (e.data.length : Int) ≠ sizeI e.map then [] else if 4000 < e.size then [] else Hol.put e.data (natP e.map) e.size.toNat
def tell (b : Bool) (c : Int) : List Int := if b = true then [c] else []
def diffs (n : Nd) (e : Ent) : List Int :=
  tell (!(n.mode == e.mode)) 3 ++ (tell (!(n.uid == e.uid)) 4 ++ (tell (!(n.gid == e.gid)) 5 ++ (tell (!(n.sec == e.sec && n.nano == e.nano)) 6 ++
  (tell (!((n.data.length : Int) == e.size)) 7 ++ (tell ((n.data.length : Int) == e.size && !(n.data == bytesE e)) 8 ++ (tell (!(n.link == e.link)) 9 ++ tell (!(n.major == e.major) || !(n.minor == e.minor)) 10))))))
def comparedE (t : T) (e : Ent) : List Int :=
  if clean e.name = [] ∧ e.kind = 53 then []
  else match t.get (clean e.name) with
    | none => [1]
    | some n => if e.kind = 49 then (if n.kind = 53 ∨ t.alike (clean e.name) (clean e.link) = false then [9] else []) else if n.kind ≠ e.kind then [2] else diffs n e
def compareGo (t : T) : Nat → List Ent → List (Nat × Int)
  | _, [] => []
  | i, e :: r => (comparedE t e).map (fun c => (i, c)) ++ compareGo t (i + 1) r
def compare (t : T) (l : List Ent) : List (Nat × Int) := compareGo t 0 l
def more (t : T) (l : List Ent) : List Bs := t.names.filter fun s => !(l.any fun e => clean e.name == s)

theorem compareGo_nil (t : T) : ∀ (l : List Ent) (i : Nat), compareGo t i l = [] ↔ ∀ e ∈ l, comparedE t e = []
  | [], i => by simp [compareGo]
  | e :: r, i => by
    have ih := compareGo_nil t r (i + 1)
    show (comparedE t e).map (fun c => (i, c)) ++ compareGo t (i + 1) r = [] ↔ _
    rw [List.append_eq_nil_iff, List.map_eq_nil_iff, ih]
    simp
theorem compare_nil (t : T) (l : List Ent) : compare t l = [] ↔ ∀ e ∈ l, comparedE t e = [] := compareGo_nil t l 0
theorem more_nil (t : T) (l : List Ent) : more t l = [] ↔ ∀ s ∈ t.names, ∃ e ∈ l, clean e.name = s := by
  unfold more
  rw [List.filter_eq_nil_iff]
  simp
theorem tell_nil (b : Bool) (c : Int) : tell b c = [] ↔ b = false := by unfold tell; cases b <;> simp
theorem bytes_entry {s : Bs} {n : Nd} (hn : rightN n = true) (holes : Bool) : bytesE (entry s n holes) = n.data := by
  have h := node_entry (s := s) hn holes
  unfold node at h
  unfold bytesE
  by_cases h1 : sparse (entry s n holes) = false
  · rw [if_pos h1] at h ⊢
    exact congrArg (fun p : Nd × Int => p.1.data) h
  · rw [if_neg h1] at h ⊢
    by_cases h2 : Hol.rightI (entry s n holes).map (entry s n holes).size = false ∨ ((entry s n holes).data.length : Int) ≠ sizeI (entry s n holes).map
    · rw [if_pos h2] at h
      have := congrArg Prod.snd h
      cases this
    · rw [if_neg h2] at h ⊢
      by_cases h3 : 4000 < (entry s n holes).size
      · rw [if_pos h3] at h
        have := congrArg Prod.snd h
        cases this
      · rw [if_neg h3] at h ⊢
        exact congrArg (fun p : Nd × Int => p.1.data) h
theorem entry_rest (s : Bs) (n : Nd) (holes : Bool) : (entry s n holes).uid = n.uid ∧ (entry s n holes).gid = n.gid ∧ (entry s n holes).size = n.data.length ∧ (entry s n holes).sec = n.sec ∧ (entry s n holes).nano = n.nano ∧ (entry s n holes).link = n.link ∧ (entry s n holes).major = n.major ∧ (entry s n holes).minor = n.minor := by
  unfold entry
  split
  · exact ⟨rfl, rfl, rfl, rfl, rfl, rfl, rfl, rfl⟩
  · split <;> exact ⟨rfl, rfl, rfl, rfl, rfl, rfl, rfl, rfl⟩
theorem diffs_entry {s : Bs} {n m : Nd} (hn : rightN n = true) (holes : Bool) (hk : m.kind = n.kind) : diffs m (entry s n holes) = [] ↔ m = n := by
  obtain ⟨_, a2, _⟩ := entry_same s n holes
  obtain ⟨b1, b2, b3, b4, b5, b6, b7, b8⟩ := entry_rest s n holes
  unfold diffs
  rw [a2, b1, b2, b3, b4, b5, b6, b7, b8, bytes_entry hn]
  simp only [List.append_eq_nil_iff, tell_nil]
  obtain ⟨m0, m1, m2, m3, m4, m5, m6, m7, m8, m9⟩ := m
  obtain ⟨n0, n1, n2, n3, n4, n5, n6, n7, n8, n9⟩ := n
  simp only at hk
  subst hk
  simp only [Nd.mk.injEq, true_and]
  constructor
  · rintro ⟨c1, c2, c3, c4, c5, c6, c7, c8⟩
    have d5 : (m6.length : Int) = (n6.length : Int) := by simpa using c5
    refine ⟨by simpa using c1, by simpa using c2, by simpa using c3, ?_, ?_, ?_, by simpa using c7, ?_, ?_⟩
    · simp only [Bool.not_eq_false', Bool.and_eq_true, beq_iff_eq] at c4; exact c4.1
    · simp only [Bool.not_eq_false', Bool.and_eq_true, beq_iff_eq] at c4; exact c4.2
    · have e : ((m6.length : Int) == (n6.length : Int)) = true := beq_iff_eq.2 d5
      rw [e] at c6
      simpa using c6
    · simp only [Bool.or_eq_false_iff, Bool.not_eq_false', beq_iff_eq] at c8; exact c8.1
    · simp only [Bool.or_eq_false_iff, Bool.not_eq_false', beq_iff_eq] at c8; exact c8.2
  · rintro ⟨rfl, rfl, rfl, rfl, rfl, rfl, rfl, rfl, rfl⟩
    simp

/-- What a member of the tree u tells of the tree t: nothing differs. -/
def Fits (t u : T) (D : List Bs) (s : Bs) : Prop := ∃ j k, look t.ents s = some j ∧ look u.ents s = some k ∧
  (first u D s = [] → t.file j = u.file k) ∧ (first u D s ≠ [] → (t.file j).kind ≠ 53 ∧ t.alike s (first u D s) = true)
theorem compared_memb {t u : T} (hu : Std u) (holes : Bool) {D : List Bs} {s : Bs} (hs : s ∈ u.names) (hD : ∀ x ∈ D, x ∈ u.names) : comparedE t (memb u holes D s) = [] ↔ Fits t u D s := by
  obtain ⟨k, hk, hr, hn, _⟩ := hu.name hs
  obtain ⟨_, cs⟩ := right_clean hr
  unfold memb Fits
  rw [nodeAt_of hk]
  by_cases hf : first u D s = []
  · rw [if_pos hf]
    obtain ⟨e1, e2, e3⟩ := entry_same s (u.file k) holes
    have hk49 : (u.file k).kind ≠ 49 := by
      have := (rightN_parts hn).1.2
      simpa using this
    unfold comparedE
    rw [e1, e3, cs, if_neg (by simp [right_ne hr])]
    cases hl : look t.ents s with
    | none =>
      have : t.get s = none := by unfold T.get; rw [hl]; rfl
      rw [this]
      simp
    | some j =>
      rw [get_of hl]
      simp only
      rw [if_neg hk49]
      by_cases hkk : (t.file j).kind = (u.file k).kind
      · rw [if_neg (by simp [hkk]), diffs_entry hn holes hkk]
        constructor
        · intro e; exact ⟨j, k, rfl, hk, fun _ => e, fun h => absurd hf h⟩
        · rintro ⟨j2, k2, a, b, c, _⟩
          cases a
          rw [hk] at b; cases b
          exact c hf
      · rw [if_pos hkk]
        constructor
        · intro e; cases e
        · rintro ⟨j2, k2, a, b, c, _⟩
          cases a
          rw [hk] at b; cases b
          exact absurd (congrArg Nd.kind (c hf)) hkk
  · rw [if_neg hf]
    obtain ⟨hfm, _⟩ := first_spec hf
    obtain ⟨_, _, hrf, _, _⟩ := hu.name (hD _ hfm)
    obtain ⟨_, cf⟩ := right_clean hrf
    unfold comparedE hard
    simp only
    rw [cs, cf, if_neg (by simp)]
    cases hl : look t.ents s with
    | none =>
      have : t.get s = none := by unfold T.get; rw [hl]; rfl
      rw [this]
      simp
    | some j =>
      rw [get_of hl]
      simp only
      rw [if_pos trivial]
      by_cases hq : (t.file j).kind = 53 ∨ t.alike s (first u D s) = false
      · rw [if_pos hq]
        constructor
        · intro e; cases e
        · rintro ⟨j2, k2, a, b, _, d⟩
          cases a
          obtain ⟨d1, d2⟩ := d hf
          rcases hq with hq | hq
          · exact absurd hq d1
          · rw [d2] at hq; cases hq
      · rw [if_neg hq]
        refine ⟨fun _ => ⟨j, k, rfl, hk, fun h => absurd h hf, fun _ => ⟨fun h => hq (.inl h), ?_⟩⟩, fun _ => rfl⟩
        cases h : t.alike s (first u D s)
        · exact absurd (.inr h) hq
        · rfl

theorem listGo_all (u : T) (holes : Bool) (P : Ent → Prop) : ∀ (r D : List Bs), (∀ e ∈ listGo u holes D r, P e) ↔ ∀ i (h : i < r.length), P (memb u holes (D ++ r.take i) r[i])
  | [], D => ⟨fun _ i h => absurd h (Nat.not_lt_zero i), fun _ e he => (by cases he)⟩
  | s :: r, D => by
    have ih := listGo_all u holes P r (D ++ [s])
    show (∀ e ∈ memb u holes D s :: listGo u holes (D ++ [s]) r, P e) ↔ _
    rw [List.forall_mem_cons, ih]
    constructor
    · rintro ⟨h1, h2⟩ i hi
      cases i with
      | zero => rw [List.take_zero, List.append_nil]; exact h1
      | succ i =>
        have := h2 i (by simpa using hi)
        rw [List.append_assoc] at this
        simpa using this
    · intro h
      refine ⟨by have := h 0 (by simp); rw [List.take_zero, List.append_nil] at this; exact this, fun i hi => ?_⟩
      have := h (i + 1) (by simpa using hi)
      rw [List.append_assoc]
      simpa using this
/-- No member of u differs in t: name by name. -/
theorem compare_list {t u : T} (hu : Std u) (holes : Bool) : compare t (list u holes) = [] ↔ ∀ i (h : i < u.names.length), Fits t u (u.names.take i) u.names[i] := by
  rw [compare_nil]
  unfold list
  rw [listGo_all]
  constructor
  · intro h i hi
    have := h i hi
    rw [List.nil_append] at this
    exact (compared_memb hu holes (List.getElem_mem hi) fun x hx => List.mem_of_mem_take hx).1 this
  · intro h i hi
    rw [List.nil_append]
    exact (compared_memb hu holes (List.getElem_mem hi) fun x hx => List.mem_of_mem_take hx).2 (h i hi)
theorem list_names {u : T} (hu : Std u) (holes : Bool) (s : Bs) : (∃ e ∈ list u holes, clean e.name = s) ↔ s ∈ u.names := by
  constructor
  · rintro ⟨e, he, hc⟩
    obtain ⟨i, hi, rfl⟩ := List.getElem_of_mem he
    have hi' : i < u.names.length := by rw [list_len] at hi; exact hi
    rw [list_get u holes i hi'] at hc
    obtain ⟨k, _, hn, _⟩ := memb_ok hu holes (List.getElem_mem hi') fun x hx => List.mem_of_mem_take (i := i) hx
    obtain ⟨_, _, hr, _⟩ := hu.name (List.getElem_mem hi')
    rw [hn, (right_clean hr).2] at hc
    rw [← hc]; exact List.getElem_mem hi'
  · intro hs
    obtain ⟨i, hi, rfl⟩ := List.getElem_of_mem hs
    refine ⟨(list u holes)[i]'(by rw [list_len]; exact hi), List.getElem_mem _, ?_⟩
    rw [list_get u holes i hi]
    obtain ⟨k, _, hn, _⟩ := memb_ok hu holes (List.getElem_mem hi) fun x hx => List.mem_of_mem_take (i := i) hx
    obtain ⟨_, _, hr, _⟩ := hu.name (List.getElem_mem hi)
    rw [hn, (right_clean hr).2]
theorem more_list {t u : T} (hu : Std u) (holes : Bool) : more t (list u holes) = [] ↔ ∀ s, t.has s = true → u.has s = true := by
  rw [more_nil]
  constructor
  · intro h s hs
    have := (list_names hu holes s).1 (h s (names_mem.2 hs))
    exact names_mem.1 this
  · intro h s hs
    exact (list_names hu holes s).2 (names_mem.2 (h s (names_mem.1 hs)))

/-- The law of DifferNone. -/
theorem differ_none {t : T} (ht : Std t) (hd : Dir1 t) (holes : Bool) : compare t (list t holes) = [] ∧ more t (list t holes) = [] := by
  refine ⟨(compare_list ht holes).2 fun i hi => ?_, (more_list ht holes).2 fun s h => h⟩
  obtain ⟨k, hk, _⟩ := ht.name (List.getElem_mem hi)
  refine ⟨k, k, hk, hk, fun _ => rfl, fun hf => ?_⟩
  obtain ⟨hm, ha⟩ := first_spec hf
  refine ⟨fun h53 => ?_, by rw [alike_comm]; exact ha⟩
  obtain ⟨kf, hkf⟩ := has_look (names_mem.1 (List.mem_of_mem_take hm))
  have e := ha
  rw [alike_of hkf hk] at e
  have hne := hd _ (look_mem hkf) _ (look_mem hk) (by simpa using e) (by simp only; rw [show kf = k by simpa using e]; exact h53)
  simp only at hne
  rw [hne] at hm
  have hnd := names_nodup ht.nd
  have h1 := List.take_append_drop i t.names
  rw [← h1, List.drop_eq_getElem_cons hi] at hnd
  exact (List.nodup_append.1 hnd).2.2 _ hm _ (List.mem_cons_self ..) rfl

end Pk
