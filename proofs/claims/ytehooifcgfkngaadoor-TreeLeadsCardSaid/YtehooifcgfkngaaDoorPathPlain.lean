/-
  Names and their parts, in plain words: no program in sight.
-/
import Derived.Test.YtehooifcgfkngaaDoorBase
import Derived.Lib.SplitLaws
import Derived.Lib.IndexBytes
import Derived.Lib.Join
namespace Pth
abbrev Bs := List UInt8

/-- The pieces between slashes. -/
def split : Bs → List Bs
  | [] => [[]]
  | c :: r => if c = 47 then [] :: split r else (c :: (split r).headD []) :: (split r).tail
theorem split_cons (c : UInt8) (r : Bs) : split (c :: r) = if c = 47 then [] :: split r else (c :: (split r).headD []) :: (split r).tail := rfl
theorem split_ne (l : Bs) : split l ≠ [] := by
  cases l with
  | nil => simp [split]
  | cons c r =>
    rw [split_cons]
    by_cases h : c = 47
    · rw [if_pos h]; simp
    · rw [if_neg h]; simp
theorem split_app (a b : Bs) : split (a ++ 47 :: b) = split a ++ split b := by
  induction a with
  | nil => simp [split]
  | cons c r ih =>
    rw [List.cons_append, split_cons, split_cons, ih]
    by_cases h : c = 47
    · rw [if_pos h, if_pos h]; rfl
    · rw [if_neg h, if_neg h]
      cases e : split r with
      | nil => exact absurd e (split_ne r)
      | cons x y => rfl
theorem split_one {p : Bs} (h : (47 : UInt8) ∉ p) : split p = [p] := by
  induction p with
  | nil => rfl
  | cons c r ih =>
    rw [List.mem_cons, not_or] at h
    rw [split_cons, if_neg (fun e => h.1 e.symm), ih h.2]; rfl
theorem split_mem {l p : Bs} (h : p ∈ split l) : (47 : UInt8) ∉ p ∧ p.length ≤ l.length := by
  induction l generalizing p with
  | nil => simp [split] at h; subst h; simp
  | cons c r ih =>
    rw [split_cons] at h
    by_cases hc : c = 47
    · rw [if_pos hc, List.mem_cons] at h
      rcases h with rfl | h
      · simp
      · have := ih h
        exact ⟨this.1, by simp only [List.length_cons]; omega⟩
    · rw [if_neg hc, List.mem_cons] at h
      rcases h with rfl | h
      · cases e : split r with
        | nil => exact absurd e (split_ne r)
        | cons x y =>
          have := ih (p := x) (by rw [e]; simp)
          simp only [List.headD_cons, List.mem_cons, not_or, List.length_cons]
          exact ⟨⟨fun e => hc e.symm, this.1⟩, by omega⟩
      · have := ih (List.mem_of_mem_tail h)
        exact ⟨this.1, by simp only [List.length_cons]; omega⟩
theorem split_len (l : Bs) : (split l).length ≤ l.length + 1 := by
  induction l with
  | nil => simp [split]
  | cons c r ih =>
    rw [split_cons]
    by_cases h : c = 47
    · rw [if_pos h]; simp; omega
    · rw [if_neg h]; simp; omega

theorem lib_split (s : Bs) : Go.Lib.split s [47] = split s := by
  obtain ⟨n, hn⟩ : ∃ n, n = s.length := ⟨_, rfl⟩
  induction n using Nat.strongRecOn generalizing s with
  | _ n ih =>
    have hi := Go.Lib.index_one s 47
    have hge := Go.Lib.indexByte_ge s 47
    by_cases h : Go.Lib.indexByte s 47 = -1
    · rw [h] at hi
      unfold Go.Lib.split
      rw [Go.Lib.count_miss hi]
      have hno : (47 : UInt8) ∉ s := fun hm => by
        obtain ⟨k, hk⟩ := List.getElem?_of_mem hm
        exact Go.Lib.indexByte_none h k hk
      rw [split_one hno]; rfl
    · obtain ⟨i, e⟩ : ∃ i : Nat, Go.Lib.indexByte s 47 = i := ⟨(Go.Lib.indexByte s 47).toNat, by omega⟩
      rw [e] at hi
      obtain ⟨h1, h2⟩ := Go.Lib.indexByte_some e
      have hlt : i < s.length := by
        rcases Nat.lt_or_ge i s.length with hl | hl
        · exact hl
        · rw [List.getElem?_eq_none hl] at h1; cases h1
      have hs : s = s.take i ++ 47 :: s.drop (i + 1) := by
        have e2 : s[i] = 47 := by rw [List.getElem?_eq_getElem hlt] at h1; exact Option.some.inj h1
        rw [← e2, ← List.drop_eq_getElem_cons hlt, List.take_append_drop]
      have hno : (47 : UInt8) ∉ s.take i := fun hm => by
        obtain ⟨k, hk⟩ := List.getElem?_of_mem hm
        rw [List.getElem?_take] at hk
        split at hk
        · exact h2 k (by assumption) hk
        · cases hk
      have ih' := ih (s.drop (i + 1)).length (by rw [List.length_drop]; omega) (s.drop (i + 1)) rfl
      have hr : split s = s.take i :: split (s.drop (i + 1)) := by
        conv => lhs; rw [hs]
        rw [split_app, split_one hno]; rfl
      rw [hr, ← ih']
      unfold Go.Lib.split
      rw [Go.Lib.count_hit (by simp) hi, Nat.add_comm 1]
      simp only [Go.Lib.splitK, hi]
      rw [if_neg (by simp)]
      simp

/-- A part that stays. -/
def keep (p : Bs) : Bool := !(p == [] || p == [46])
def parts (l : Bs) : List Bs := (split l).filter keep
theorem parts_app (a b : Bs) : parts (a ++ 47 :: b) = parts a ++ parts b := by
  unfold parts; rw [split_app, List.filter_append]
theorem parts_nil : parts [] = [] := rfl

/-- A part as it may be: neither empty nor a point, with no slash. -/
def Ok (p : Bs) : Prop := p ≠ [] ∧ p ≠ [46] ∧ (47 : UInt8) ∉ p
theorem keep_iff (p : Bs) : keep p = true ↔ p ≠ [] ∧ p ≠ [46] := by simp [keep]
theorem ok_keep {p : Bs} (h : Ok p) : keep p = true := (keep_iff p).2 ⟨h.1, h.2.1⟩
theorem parts_ok {l p : Bs} (h : p ∈ parts l) : Ok p := by
  unfold parts at h
  rw [List.mem_filter] at h
  have := (keep_iff p).1 h.2
  exact ⟨this.1, this.2, (split_mem h.1).1⟩
theorem parts_one {p : Bs} (h : Ok p) : parts p = [p] := by
  unfold parts
  rw [split_one h.2.2, List.filter_cons_of_pos (ok_keep h)]; rfl
theorem parts_len (l : Bs) : (parts l).length ≤ l.length + 1 := Nat.le_trans (List.length_filter_le _ _) (split_len l)
theorem part_len {l p : Bs} (h : p ∈ parts l) : p.length ≤ l.length := by
  unfold parts at h
  exact (split_mem (List.mem_filter.1 h).1).2

/-- Parts, a slash between each two. -/
def join : List Bs → Bs
  | [] => []
  | [p] => p
  | p :: q :: r => p ++ 47 :: join (q :: r)
theorem join_cons (p : Bs) {r : List Bs} (h : r ≠ []) : join (p :: r) = p ++ 47 :: join r := by
  cases r with
  | nil => exact absurd rfl h
  | cons q r => rfl
theorem lib_join (ps : List Bs) : Go.Lib.join ps [47] = join ps := by
  induction ps with
  | nil => rfl
  | cons p r ih =>
    cases r with
    | nil => exact Go.Lib.join_one _ _
    | cons q r =>
      rw [Go.Lib.join_cons] at ih ⊢
      rw [join_cons p (by simp), ← ih]
      simp [Go.Lib.joinTail]
theorem join_app {a b : List Bs} (ha : a ≠ []) (hb : b ≠ []) : join (a ++ b) = join a ++ 47 :: join b := by
  induction a with
  | nil => exact absurd rfl ha
  | cons p r ih =>
    cases r with
    | nil => rw [List.singleton_append, join_cons p hb]; rfl
    | cons q r =>
      rw [List.cons_append, join_cons p (by simp), ih (by simp), join_cons p (by simp)]
      simp
theorem parts_join {ps : List Bs} (h : ∀ p ∈ ps, Ok p) : parts (join ps) = ps := by
  induction ps with
  | nil => rfl
  | cons p r ih =>
    cases r with
    | nil => exact parts_one (h p (by simp))
    | cons q r =>
      rw [join_cons p (by simp), parts_app, parts_one (h p (by simp)), ih (fun x hx => h x (by simp [hx]))]; rfl
theorem join_ne {ps : List Bs} (h : ∀ p ∈ ps, Ok p) (h0 : ps ≠ []) : join ps ≠ [] := by
  cases ps with
  | nil => exact absurd rfl h0
  | cons p r =>
    cases r with
    | nil => exact (h p (by simp)).1
    | cons q r => rw [join_cons p (by simp)]; simp
theorem join_len (ps : List Bs) : (join ps).length ≤ (ps.map (fun p => p.length + 1)).sum := by
  induction ps with
  | nil => simp [join]
  | cons p r ih =>
    cases r with
    | nil => simp [join]
    | cons q r => rw [join_cons p (by simp)]; simp at ih ⊢; omega
theorem split_sum (l : Bs) : ((split l).map (fun p => p.length + 1)).sum = l.length + 1 := by
  induction l with
  | nil => rfl
  | cons c r ih =>
    rw [split_cons]
    by_cases h : c = 47
    · rw [if_pos h]; simp; omega
    · rw [if_neg h]
      cases e : split r with
      | nil => exact absurd e (split_ne r)
      | cons x y => rw [e] at ih; simp at ih ⊢; omega
theorem filter_sum (ps : List Bs) (f : Bs → Bool) : ((ps.filter f).map (fun p => p.length + 1)).sum ≤ (ps.map (fun p => p.length + 1)).sum := by
  induction ps with
  | nil => simp
  | cons p r ih =>
    rw [List.filter_cons]
    split
    · simp only [List.map_cons, List.sum_cons]; omega
    · simp only [List.map_cons, List.sum_cons]; omega
theorem parts_sum (l : Bs) : ((parts l).map (fun p => p.length + 1)).sum ≤ l.length + 1 := by
  have := filter_sum (split l) keep
  rw [split_sum] at this; exact this

/-- '..' -/
abbrev dd : Bs := [46, 46]
def step (x : List Bs × Bool) (p : Bs) : List Bs × Bool := if p ≠ dd then (x.1 ++ [p], x.2) else if x.1 = [] then (x.1, false) else (x.1.dropLast, x.2)
def run (x : List Bs × Bool) (ps : List Bs) : List Bs × Bool := ps.foldl step x
def cleanP (l : Bs) : List Bs × Bool := run ([], true) (parts l)
def clean (l : Bs) : Bs := join (cleanP l).1
def cleanOk (l : Bs) : Bool := (cleanP l).2
theorem run_app (x : List Bs × Bool) (a b : List Bs) : run x (a ++ b) = run (run x a) b := by unfold run; rw [List.foldl_append]
theorem step_flag (L : List Bs) (ok : Bool) (p : Bs) : step (L, ok) p = ((step (L, true) p).1, ok && (step (L, true) p).2) := by
  unfold step
  by_cases h : p ≠ dd
  · simp [h]
  · by_cases h2 : L = []
    · simp [h, h2]
    · simp [h, h2]
theorem run_flag (ps : List Bs) : ∀ (L : List Bs) (ok : Bool), run (L, ok) ps = ((run (L, true) ps).1, ok && (run (L, true) ps).2) := by
  induction ps with
  | nil => intro L ok; simp [run]
  | cons p r ih =>
    intro L ok
    have e : ∀ x, run x (p :: r) = run (step x p) r := fun _ => rfl
    rw [e, e, step_flag]
    obtain ⟨M, b, hM⟩ : ∃ M b, step (L, true) p = (M, b) := ⟨_, _, rfl⟩
    rw [hM]
    show run (M, ok && b) r = _
    rw [ih M (ok && b), ih M b]
    simp [Bool.and_assoc]
theorem run_plain (ps : List Bs) : ∀ (L : List Bs) (ok : Bool), (∀ p ∈ ps, p ≠ dd) → run (L, ok) ps = (L ++ ps, ok) := by
  induction ps with
  | nil => intro L ok _; simp [run]
  | cons p r ih =>
    intro L ok h
    have e : run (L, ok) (p :: r) = run (step (L, ok) p) r := rfl
    rw [e]
    have : step (L, ok) p = (L ++ [p], ok) := by unfold step; rw [if_pos (h p (by simp))]
    rw [this, ih _ _ (fun q hq => h q (by simp [hq]))]; simp
/-- Parts of a clean name: no '..' among them. -/
def Cl (ps : List Bs) : Prop := ∀ p ∈ ps, Ok p ∧ p ≠ dd
theorem step_cl {x : List Bs × Bool} {p : Bs} (hx : Cl x.1) (hp : Ok p) : Cl (step x p).1 := by
  unfold step
  by_cases h : p ≠ dd
  · rw [if_pos h]
    intro q hq
    rcases List.mem_append.1 hq with hq | hq
    · exact hx q hq
    · rw [List.mem_singleton] at hq; subst hq; exact ⟨hp, h⟩
  · rw [if_neg h]
    split
    · exact hx
    · exact fun q hq => hx q ((List.dropLast_sublist _).subset hq)
theorem run_cl (ps : List Bs) : ∀ (x : List Bs × Bool), Cl x.1 → (∀ p ∈ ps, Ok p) → Cl (run x ps).1 := by
  induction ps with
  | nil => intro x hx _; exact hx
  | cons p r ih => intro x hx h; exact ih _ (step_cl hx (h p (by simp))) (fun q hq => h q (by simp [hq]))
theorem cleanP_cl (l : Bs) : Cl (cleanP l).1 := run_cl _ _ (fun _ h => by cases h) (fun _ h => parts_ok h)
theorem Cl.ok {ps : List Bs} (h : Cl ps) : ∀ p ∈ ps, Ok p := fun p hp => (h p hp).1
theorem cl_clean {L : List Bs} (h : Cl L) : cleanP (join L) = (L, true) := by
  unfold cleanP
  rw [parts_join h.ok, run_plain _ _ _ (fun p hp => (h p hp).2)]; rfl
theorem step_len (x : List Bs × Bool) (p : Bs) : ((step x p).1.map (fun p => p.length + 1)).sum ≤ (x.1.map (fun p => p.length + 1)).sum + (p.length + 1) := by
  unfold step
  split
  · simp
  · split
    · simp
    · have h : x.1.dropLast ++ [x.1.getLast (by assumption)] = x.1 := List.dropLast_concat_getLast _
      have e : (x.1.map (fun p => p.length + 1)).sum = (x.1.dropLast.map (fun p => p.length + 1)).sum + ([x.1.getLast (by assumption)].map (fun p => p.length + 1)).sum := by
        rw [← List.sum_append_nat, ← List.map_append, h]
      simp only; omega
theorem run_len (ps : List Bs) : ∀ x : List Bs × Bool, ((run x ps).1.map (fun p => p.length + 1)).sum ≤ (x.1.map (fun p => p.length + 1)).sum + (ps.map (fun p => p.length + 1)).sum := by
  induction ps with
  | nil => intro x; simp [run]
  | cons p r ih =>
    intro x
    have e : run x (p :: r) = run (step x p) r := rfl
    rw [e]
    have h1 := ih (step x p)
    have h2 := step_len x p
    simp only [List.map_cons, List.sum_cons]
    omega
theorem clean_len (l : Bs) : (clean l).length ≤ l.length + 1 := by
  unfold clean
  have h1 := join_len (cleanP l).1
  have h2 := run_len (parts l) ([], true)
  have h3 := parts_sum l
  have h4 : (cleanP l).1 = (run ([], true) (parts l)).1 := rfl
  rw [h4] at h1
  rw [h4]
  simp only [List.map_nil, List.sum_nil] at h2
  omega

/-- A valid name. -/
def right (l : Bs) : Bool := cleanOk l && clean l == l && !(l == []) && decide (l.length ≤ 120) && decide ((parts l).length ≤ 12) && !(l.contains 0)
theorem right_of {a : Bs} (h : right a = true) : ∃ L, Cl L ∧ L ≠ [] ∧ a = join L ∧ parts a = L ∧ a.length ≤ 120 ∧ L.length ≤ 12 ∧ a.contains 0 = false := by
  unfold right at h
  simp only [Bool.and_eq_true, beq_iff_eq, Bool.not_eq_true', decide_eq_true_eq, beq_eq_false_iff_ne] at h
  obtain ⟨⟨⟨⟨⟨h1, h2⟩, h3⟩, h4⟩, h5⟩, h6⟩ := h
  have hL := cleanP_cl a
  have e : parts a = (cleanP a).1 := by rw [← parts_join hL.ok]; congr 1; exact h2.symm
  refine ⟨(cleanP a).1, hL, fun e0 => h3 ?_, h2.symm, e, h4, by rw [← e]; exact h5, h6⟩
  rw [← h2]; unfold clean; rw [e0]; rfl
theorem right_mk {L : List Bs} (h : Cl L) (h0 : L ≠ []) (h1 : (join L).length ≤ 120) (h2 : L.length ≤ 12) (h3 : (join L).contains 0 = false) : right (join L) = true := by
  have hc := cl_clean h
  have e1 : cleanOk (join L) = true := by unfold cleanOk; rw [hc]
  have e2 : clean (join L) = join L := by unfold clean; rw [hc]
  unfold right
  rw [e1, e2, parts_join h.ok]
  have := join_ne h.ok h0
  simp [h1, h2, this]
  simpa using h3

/-! Once is enough. -/
theorem clean_once (a : Bs) : cleanOk (clean a) = true ∧ clean (clean a) = clean a := by
  have h := cl_clean (cleanP_cl a)
  unfold cleanOk clean
  rw [h]; exact ⟨rfl, rfl⟩
theorem clean_parts (a : Bs) : parts (clean a) = (cleanP a).1 := parts_join (cleanP_cl a).ok
theorem clean_on (a b : Bs) : clean (a ++ 47 :: b) = clean (clean a ++ 47 :: b) ∧ (cleanOk a = true → cleanOk (a ++ 47 :: b) = cleanOk (clean a ++ 47 :: b)) := by
  have e1 : cleanP (a ++ 47 :: b) = run (cleanP a) (parts b) := by
    unfold cleanP; rw [parts_app, run_app]
  have e2 : cleanP (clean a ++ 47 :: b) = run ((cleanP a).1, true) (parts b) := by
    unfold cleanP
    rw [parts_app, clean_parts, run_app, run_plain _ _ _ (fun p hp => (cleanP_cl a p hp).2)]; rfl
  have e3 := run_flag (parts b) (cleanP a).1 (cleanP a).2
  have e4 : run (cleanP a) (parts b) = ((run ((cleanP a).1, true) (parts b)).1, (cleanP a).2 && (run ((cleanP a).1, true) (parts b)).2) := e3
  unfold clean cleanOk
  rw [e1, e4]
  have e5 : cleanP (join (cleanP a).1 ++ 47 :: b) = run ((cleanP a).1, true) (parts b) := e2
  rw [e5]
  exact ⟨rfl, fun h => by rw [h]; rfl⟩

/-! Inside a directory. -/
def inn (a d : Bs) : Bool := d == [] || a == d || (d ++ [47]).isPrefixOf a
theorem inn_iff (a d : Bs) : inn a d = true ↔ d = [] ∨ a = d ∨ ∃ r, a = d ++ 47 :: r := by
  unfold inn
  simp only [Bool.or_eq_true, beq_iff_eq, List.isPrefixOf_iff_prefix, or_assoc]
  constructor
  · rintro (h | h | ⟨r, h⟩)
    · exact .inl h
    · exact .inr (.inl h)
    · exact .inr (.inr ⟨r, by rw [← h]; simp⟩)
  · rintro (h | h | ⟨r, h⟩)
    · exact .inl h
    · exact .inr (.inl h)
    · exact .inr (.inr ⟨r, by rw [h]; simp⟩)
theorem inn_trans {a b c : Bs} (h1 : inn a b = true) (h2 : inn b c = true) : inn a c = true := by
  rw [inn_iff] at *
  rcases h2 with rfl | rfl | ⟨r, rfl⟩
  · exact .inl rfl
  · exact h1
  · rcases h1 with h | rfl | ⟨q, rfl⟩
    · simp at h
    · exact .inr (.inr ⟨r, rfl⟩)
    · exact .inr (.inr ⟨r ++ 47 :: q, by simp⟩)
theorem inn_anti {a b : Bs} (ha : a ≠ []) (hb : b ≠ []) (h1 : inn a b = true) (h2 : inn b a = true) : a = b := by
  rw [inn_iff] at *
  rcases h1 with h | h | ⟨r, h⟩
  · exact absurd h hb
  · exact h
  · rcases h2 with h' | h' | ⟨q, h'⟩
    · exact absurd h' ha
    · exact h'.symm
    · have e1 := congrArg List.length h
      have e2 := congrArg List.length h'
      simp at e1 e2; omega
/-- For clean names: inside is a prefix of the parts. -/
theorem inn_parts {A D : List Bs} (hA : Cl A) (hD : Cl D) (h0 : D ≠ []) (hA0 : A ≠ []) : inn (join A) (join D) = true ↔ ∃ R, A = D ++ R := by
  rw [inn_iff]
  constructor
  · rintro (h | h | ⟨r, h⟩)
    · exact absurd h (join_ne hD.ok h0)
    · have := congrArg parts h
      rw [parts_join hA.ok, parts_join hD.ok] at this
      exact ⟨[], by rw [this]; simp⟩
    · have := congrArg parts h
      rw [parts_app, parts_join hA.ok, parts_join hD.ok] at this
      exact ⟨_, this⟩
  · rintro ⟨R, rfl⟩
    by_cases hR : R = []
    · subst hR; right; left; simp
    · right; right; exact ⟨join R, join_app h0 hR⟩

/-! The order of names. -/
/-- Bytes, one text against another: 0, -1 or 1. -/
def cmpB (a b : Bs) : Int := if a < b then -1 else if b < a then 1 else 0
def cmp : List Bs → List Bs → Int
  | [], [] => 0
  | [], _ :: _ => -1
  | _ :: _, [] => 1
  | a :: r, b :: q => if cmpB a b = 0 then cmp r q else cmpB a b
theorem lt_asymm' {a b : Bs} (h : a < b) : ¬ b < a := fun k => List.lt_irrefl a (List.lt_trans h k)
theorem lt_tri {a b : Bs} (h1 : ¬ a < b) (h2 : ¬ b < a) : a = b := List.le_antisymm h2 h1
theorem cmpB_zero (a b : Bs) : cmpB a b = 0 ↔ a = b := by
  unfold cmpB
  constructor
  · intro h
    split at h
    · omega
    · split at h
      · omega
      · exact lt_tri (by assumption) (by assumption)
  · rintro rfl; rw [if_neg (List.lt_irrefl a), if_neg (List.lt_irrefl a)]
theorem cmpB_neg (a b : Bs) : cmpB a b < 0 ↔ a < b := by
  unfold cmpB
  split
  · simp_all
  · split <;> simp_all
theorem cmpB_pos (a b : Bs) : 0 < cmpB a b ↔ b < a := by
  unfold cmpB
  split
  · have := lt_asymm' (by assumption : a < b); simp_all
  · split <;> simp_all
theorem cmp_anti : ∀ a b : List Bs, (cmp a b < 0 ↔ 0 < cmp b a)
  | [], [] => by simp [cmp]
  | [], _ :: _ => by simp [cmp]
  | _ :: _, [] => by simp [cmp]
  | a :: r, b :: q => by
    have ih := cmp_anti r q
    unfold cmp
    by_cases h : a = b
    · subst h; rw [if_pos ((cmpB_zero a a).2 rfl), if_pos ((cmpB_zero a a).2 rfl)]; exact ih
    · rw [if_neg (fun e => h ((cmpB_zero a b).1 e)), if_neg (fun e => h ((cmpB_zero b a).1 e).symm), cmpB_neg, cmpB_pos]
theorem cmp_zero : ∀ a b : List Bs, cmp a b = 0 ↔ a = b
  | [], [] => by simp [cmp]
  | [], _ :: _ => by simp [cmp]
  | _ :: _, [] => by simp [cmp]
  | a :: r, b :: q => by
    have ih := cmp_zero r q
    unfold cmp
    by_cases h : a = b
    · subst h; rw [if_pos ((cmpB_zero a a).2 rfl)]; simp [ih]
    · rw [if_neg (fun e => h ((cmpB_zero a b).1 e)), cmpB_zero]; simp [h]
theorem cmp_trans : ∀ a b c : List Bs, cmp a b < 0 → cmp b c < 0 → cmp a c < 0
  | [], [], _ => by simp [cmp]
  | _, _ :: _, [] => by simp [cmp]
  | _ :: _, [], _ => by simp [cmp]
  | [], _ :: _, _ :: _ => by simp [cmp]
  | a :: r, b :: q, c :: s => by
    have ih := cmp_trans r q s
    unfold cmp
    by_cases h : a = b
    · subst h
      rw [if_pos ((cmpB_zero a a).2 rfl)]
      intro h1
      by_cases h2 : a = c
      · subst h2; rw [if_pos ((cmpB_zero a a).2 rfl), if_pos ((cmpB_zero a a).2 rfl)]; exact fun h3 => ih h1 h3
      · rw [if_neg (fun e => h2 ((cmpB_zero a c).1 e)), if_neg (fun e => h2 ((cmpB_zero a c).1 e))]; exact id
    · rw [if_neg (fun e => h ((cmpB_zero a b).1 e)), cmpB_neg]
      intro h1
      by_cases h2 : b = c
      · subst h2; intro _; rw [if_neg (fun e => h ((cmpB_zero a b).1 e)), cmpB_neg]; exact h1
      · rw [if_neg (fun e => h2 ((cmpB_zero b c).1 e)), cmpB_neg]
        intro h3
        have h4 := List.lt_trans h1 h3
        rw [if_neg (fun e => List.lt_irrefl c (by rw [(cmpB_zero a c).1 e] at h4; exact h4)), cmpB_neg]; exact h4
theorem cmp_pre (A R : List Bs) (h : R ≠ []) : cmp A (A ++ R) < 0 := by
  induction A with
  | nil =>
    cases R with
    | nil => exact absurd rfl h
    | cons x y => simp [cmp]
  | cons a r ih => rw [List.cons_append]; unfold cmp; rw [if_pos ((cmpB_zero a a).2 rfl)]; exact ih
theorem cmp_mid : ∀ A B R : List Bs, cmp A B < 0 → cmp B (A ++ R) < 0 → ∃ Q, B = A ++ Q
  | [], B, _ => fun _ _ => ⟨B, rfl⟩
  | _ :: _, [], _ => fun h => by simp [cmp] at h
  | a :: r, b :: q, R => by
    have ih := cmp_mid r q R
    rw [List.cons_append]
    unfold cmp
    by_cases h : a = b
    · subst h
      rw [if_pos ((cmpB_zero a a).2 rfl), if_pos ((cmpB_zero a a).2 rfl)]
      intro h1 h2
      obtain ⟨Q, hQ⟩ := ih h1 h2
      exact ⟨Q, by rw [hQ]; rfl⟩
    · rw [if_neg (fun e => h ((cmpB_zero a b).1 e)), if_neg (fun e => h ((cmpB_zero b a).1 e).symm), cmpB_neg, cmpB_neg]
      exact fun h1 h2 => absurd h2 (lt_asymm' h1)

/-! The way from one name to another. -/
theorem run_up (n : Nat) : ∀ (L M : List Bs), M.length = n → run (L ++ M, true) (List.replicate n dd) = (L, true) := by
  induction n with
  | zero => intro L M h; rw [List.length_eq_zero_iff.1 h]; simp [run]
  | succ n ih =>
    intro L M h
    have hne : M ≠ [] := by intro e; rw [e] at h; simp at h
    have e : run (L ++ M, true) (List.replicate (n + 1) dd) = run (step (L ++ M, true) dd) (List.replicate n dd) := by rw [List.replicate_succ]; rfl
    rw [e]
    have h2 : step (L ++ M, true) dd = (L ++ M.dropLast, true) := by
      unfold step
      rw [if_neg (by simp), if_neg (by simp [hne])]
      show ((L ++ M).dropLast, true) = _
      rw [List.dropLast_append_of_ne_nil hne]
    rw [h2]
    exact ih L M.dropLast (by rw [List.length_dropLast]; omega)
/-- '../' n times. -/
def ups : Nat → Bs
  | 0 => []
  | n + 1 => 46 :: 46 :: 47 :: ups n
theorem ups_parts (n : Nat) (l : Bs) : parts (ups n ++ l) = List.replicate n dd ++ parts l := by
  induction n with
  | zero => rfl
  | succ n ih =>
    have e : ups (n + 1) ++ l = dd ++ 47 :: (ups n ++ l) := rfl
    rw [e, parts_app, ih, List.replicate_succ]; rfl
/-- The number of leading parts that two names have in common, the last parts apart. -/
def same : List Bs → List Bs → Nat
  | a :: x :: r, b :: y :: q => if a = b then same (x :: r) (y :: q) + 1 else 0
  | _, _ => 0
def away (a b : Bs) : Bs := if parts a = [] ∨ parts b = [] then [] else ups ((parts a).length - 1 - same (parts a) (parts b)) ++ join ((parts b).drop (same (parts a) (parts b)))
theorem same_lt : ∀ A B : List Bs, A ≠ [] → B ≠ [] → same A B < A.length ∧ same A B < B.length
  | [], _, h, _ => absurd rfl h
  | _ :: _, [], _, h => absurd rfl h
  | [_], _ :: _, _, _ => by simp [same]
  | _ :: _ :: _, [_], _, _ => by simp [same]
  | a :: x :: r, b :: y :: q, _, _ => by
    have ih := same_lt (x :: r) (y :: q) (by simp) (by simp)
    unfold same
    split
    · simp at ih ⊢; omega
    · simp
theorem same_take : ∀ A B : List Bs, A.take (same A B) = B.take (same A B)
  | [], B => by simp [same]
  | [_], B => by cases B <;> simp [same]
  | _ :: _ :: _, [] => by simp [same]
  | _ :: _ :: _, [_] => by simp [same]
  | a :: x :: r, b :: y :: q => by
    have ih := same_take (x :: r) (y :: q)
    unfold same
    split
    · rename_i h; subst h; rw [List.take_succ_cons, List.take_succ_cons, ih]
    · simp
/-- The directory of a name: all but the last part. -/
def upDir (L : List Bs) : Bs := join L.dropLast
theorem away_leads {A B : List Bs} (hA : Cl A) (hB : Cl B) (hA0 : A ≠ []) (hB0 : B ≠ []) :
    cleanP (join A.dropLast ++ 47 :: away (join A) (join B)) = (B, true) := by
  have h1 := same_lt A B hA0 hB0
  have h2 := same_take A B
  have hAd : Cl A.dropLast := fun p hp => hA p ((List.dropLast_sublist _).subset hp)
  have hBd : Cl (B.drop (same A B)) := fun p hp => hB p (List.mem_of_mem_drop hp)
  have e : away (join A) (join B) = ups (A.length - 1 - same A B) ++ join (B.drop (same A B)) := by
    unfold away
    rw [parts_join hA.ok, parts_join hB.ok, if_neg (by simp [hA0, hB0])]
  unfold cleanP
  rw [parts_app, e, ups_parts, parts_join hAd.ok, parts_join hBd.ok, run_app, run_plain _ _ _ (fun p hp => (hAd p hp).2), run_app]
  have e2 : ([] : List Bs) ++ A.dropLast = A.take (same A B) ++ A.dropLast.drop (same A B) := by
    rw [List.nil_append]
    have h3 : A.take (same A B) = A.dropLast.take (same A B) := by
      rw [List.dropLast_eq_take, List.take_take, Nat.min_eq_left (by omega)]
    rw [h3, List.take_append_drop]
  rw [e2, run_up _ _ _ (by rw [List.length_drop, List.length_dropLast]), run_plain _ _ _ (fun p hp => (hBd p hp).2), h2, List.take_append_drop]
/-- A link that 'away' gives does not begin with a slash. -/
theorem away_head {A B : List Bs} (hA : Cl A) (hB : Cl B) (hA0 : A ≠ []) (hB0 : B ≠ []) : ∀ r, away (join A) (join B) ≠ 47 :: r := by
  intro r
  have h1 := same_lt A B hA0 hB0
  unfold away
  rw [parts_join hA.ok, parts_join hB.ok, if_neg (by simp [hA0, hB0])]
  cases A.length - 1 - same A B with
  | succ n => simp [ups]
  | zero =>
    show join (B.drop (same A B)) ≠ _
    cases e : B.drop (same A B) with
    | nil => simp [join]
    | cons p q =>
      have hp : Ok p := (hB p (List.mem_of_mem_drop (by rw [e]; simp))).1
      have hf : ∀ t, p ++ t ≠ 47 :: r := by
        intro t
        cases p with
        | nil => exact absurd rfl hp.1
        | cons c d =>
          intro h
          simp at h
          exact hp.2.2 (by rw [h.1]; simp)
      cases q with
      | nil => have := hf []; rwa [List.append_nil] at this
      | cons x y => rw [join_cons p (by simp)]; exact hf _

/-! One name in two: at its last slash. -/
theorem join_last {L : List Bs} (h : L ≠ []) : join L = if L.dropLast = [] then L.getLast h else join L.dropLast ++ 47 :: L.getLast h := by
  have e := List.dropLast_concat_getLast h
  by_cases h0 : L.dropLast = []
  · rw [if_pos h0]
    rw [h0] at e
    conv => lhs; rw [← e]
    rfl
  · rw [if_neg h0]
    conv => lhs; rw [← e]
    rw [join_app h0 (by simp)]; rfl
end Pth
