/-
  Members against trees, plain: two trees of which neither differs from the other one's members are the same.
-/
import Derived.Test.YtipajekehbpghaaGreatDoorZb
set_option linter.unusedVariables false
set_option linter.unusedSimpArgs false

namespace Pk
open Pth Tre

theorem alike_trans {t : T} {a b c : Bs} (h : t.alike a b = true) (k : t.alike b c = true) : t.alike a c = true := by
  unfold T.alike at h k ⊢
  cases ha : look t.ents a with
  | none => rw [ha] at h; cases hb : look t.ents b <;> simp at h
  | some i =>
    cases hb : look t.ents b with
    | none => rw [ha, hb] at h; cases h
    | some j =>
      cases hc : look t.ents c with
      | none => rw [hb, hc] at k; cases k
      | some l =>
        rw [ha, hb] at h
        rw [hb, hc] at k
        simp only [beq_iff_eq] at h k ⊢
        omega
theorem alike_self {t : T} {a : Bs} (h : t.has a = true) : t.alike a a = true := by
  obtain ⟨k, hk⟩ := has_look h
  rw [alike_of hk hk]; simp
theorem alike_file {t : T} {a b : Bs} {i k : Nat} (h : t.alike a b = true) (ha : look t.ents a = some i) (hb : look t.ents b = some k) : i = k := by
  rw [alike_of ha hb] at h; simpa using h

/-- The first of a name's fellows. -/
theorem head_of {u : T} (hu : Std u) {i : Nat} (hi : i < u.names.length) : ∃ j, ∃ hj : j < u.names.length, j ≤ i ∧ u.alike u.names[j] u.names[i] = true ∧ (∀ x ∈ u.names.take j, u.alike x u.names[i] = false) ∧
    first u (u.names.take j) u.names[j] = [] ∧ (j ≠ i → first u (u.names.take i) u.names[i] = u.names[j]) := by
  have hself := alike_self (names_mem.1 (List.getElem_mem hi))
  cases e : u.names.find? fun x => u.alike x u.names[i] with
  | none =>
    have := List.find?_eq_none.1 e _ (List.getElem_mem hi)
    rw [hself] at this
    exact absurd rfl this
  | some f =>
    obtain ⟨hf, aa, bs, hl, has⟩ := List.find?_eq_some_iff_append.1 e
    have hj : aa.length < u.names.length := by rw [hl]; simp
    have hget : u.names[aa.length] = f := by
      have : u.names[aa.length]? = some f := by rw [hl]; simp
      rw [List.getElem?_eq_getElem hj] at this
      exact Option.some.inj this
    have htake : u.names.take aa.length = aa := by rw [hl]; simp
    have hno : ∀ x ∈ aa, u.alike x u.names[i] = false := fun x hx => by simpa using has x hx
    have hji : aa.length ≤ i := by
      rcases Nat.lt_or_ge i aa.length with h | h
      · exfalso
        have hm : u.names[i] ∈ aa := by
          rw [← htake]
          exact List.mem_take_iff_getElem.2 ⟨i, by omega, rfl⟩
        rw [hno _ hm] at hself; cases hself
      · exact h
    have hne : ∀ x ∈ u.names, x ≠ [] := fun x hx => by
      obtain ⟨_, _, hr, _⟩ := hu.name hx
      exact right_ne hr
    refine ⟨aa.length, hj, hji, by rw [hget]; exact hf, by rw [htake]; exact hno, ?_, fun hne2 => ?_⟩
    · rw [htake, hget]
      unfold first
      rw [List.find?_eq_none.2]
      · rfl
      · intro x hx hxf
        have := alike_trans hxf hf
        rw [hno x hx] at this; cases this
    · have hlt : aa.length < i := by omega
      unfold first
      have : (u.names.take i).find? (fun x => u.alike x u.names[i]) = some f := by
        rw [List.find?_eq_some_iff_append]
        refine ⟨hf, aa, bs.take (i - aa.length - 1), ?_, has⟩
        have h1 : (aa ++ f :: bs).take i = aa ++ (f :: bs).take (i - aa.length) := by rw [List.take_append, List.take_of_length_le (by omega)]
        rw [hl, h1]
        obtain ⟨d, hd⟩ : ∃ d, i - aa.length = d + 1 := ⟨i - aa.length - 1, by omega⟩
        rw [hd, List.take_succ_cons]; rfl
      rw [this, hget]
      rfl

/-- Of the trees t, u: u has all names of t, and none of u's members differs in t. -/
structure Agree (t u : T) : Prop where
  nm : ∀ s, t.has s = true → u.has s = true
  fi : ∀ i (h : i < u.names.length), Fits t u (u.names.take i) u.names[i]

theorem Agree.file {t u : T} (hu : Std u) (h : Agree t u) {s : Bs} {j k : Nat} (hj : look t.ents s = some j) (hk : look u.ents s = some k) : t.file j = u.file k := by
  obtain ⟨i, hi, rfl⟩ := List.getElem_of_mem (names_mem.2 (look_has hk))
  obtain ⟨m, hm, hmi, ha, hno, hfm, hfi⟩ := head_of hu hi
  by_cases e : m = i
  · subst e
    obtain ⟨j2, k2, a, b, c, _⟩ := h.fi m hm
    rw [hj] at a; cases a
    rw [hk] at b; cases b
    exact c hfm
  · have hf := hfi e
    obtain ⟨j2, k2, a, b, _, d⟩ := h.fi i hi
    rw [hj] at a; cases a
    rw [hk] at b; cases b
    have hne : u.names[m] ≠ [] := by
      obtain ⟨_, _, hr, _⟩ := hu.name (List.getElem_mem hm)
      exact right_ne hr
    have h2 := (d (by rw [hf]; exact hne)).2
    rw [hf] at h2
    obtain ⟨j3, k3, a3, b3, c3, _⟩ := h.fi m hm
    have e1 := alike_file h2 hj a3
    have e2 := alike_file ha b3 hk
    have := c3 hfm
    rw [e1, this, e2]
theorem Agree.alike {t u : T} (hu : Std u) (h : Agree t u) {a b : Bs} (hab : u.alike a b = true) : t.alike a b = true := by
  have hal : ∀ i (hi : i < u.names.length) m (hm : m < u.names.length), (m ≠ i → first u (u.names.take i) u.names[i] = u.names[m]) → t.alike u.names[i] u.names[m] = true := by
    intro i hi m hm hf
    obtain ⟨j2, k2, a, b, _, d⟩ := h.fi i hi
    by_cases e : m = i
    · subst e; exact alike_self (look_has a)
    · have hne : u.names[m] ≠ [] := by
        obtain ⟨_, _, hr, _⟩ := hu.name (List.getElem_mem hm)
        exact right_ne hr
      have := (d (by rw [hf e]; exact hne)).2
      rw [hf e] at this; exact this
  have hha : u.has a = true := by
    unfold T.alike at hab
    unfold T.has
    cases ha : look u.ents a with
    | none => rw [ha] at hab; cases hb : look u.ents b <;> simp at hab
    | some _ => rfl
  have hhb : u.has b = true := by
    rw [alike_comm] at hab
    unfold T.alike at hab
    unfold T.has
    cases ha : look u.ents b with
    | none => rw [ha] at hab; cases hb : look u.ents a <;> simp at hab
    | some _ => rfl
  obtain ⟨i, hi, rfl⟩ := List.getElem_of_mem (names_mem.2 hha)
  obtain ⟨i2, hi2, rfl⟩ := List.getElem_of_mem (names_mem.2 hhb)
  obtain ⟨m, hm, _, a1, n1, _, f1⟩ := head_of hu hi
  obtain ⟨m2, hm2, _, a2, n2, _, f2⟩ := head_of hu hi2
  have hmm : m = m2 := by
    rcases Nat.lt_trichotomy m m2 with h3 | h3 | h3
    · exfalso
      have := n2 u.names[m] (List.mem_take_iff_getElem.2 ⟨m, by omega, rfl⟩)
      rw [alike_trans a1 hab] at this; cases this
    · exact h3
    · exfalso
      have := n1 u.names[m2] (List.mem_take_iff_getElem.2 ⟨m2, by omega, rfl⟩)
      rw [alike_comm] at hab
      rw [alike_trans a2 hab] at this; cases this
  subst hmm
  have x1 := hal i hi m hm f1
  have x2 := hal i2 hi2 m hm f2
  rw [alike_comm] at x2
  exact alike_trans x1 x2
theorem agree_same {t u : T} (ht : Std t) (hu : Std u) (h : Agree t u) (k : Agree u t) : Same t u := by
  refine ⟨?_, fun p hp => ?_, fun p hp q hq i j hi hj => ?_⟩
  · have nu : (u.ents.map (·.1)).Nodup := by rw [List.nodup_iff_pairwise_ne, List.pairwise_map]; exact hu.nd
    have nt : (t.ents.map (·.1)).Nodup := by rw [List.nodup_iff_pairwise_ne, List.pairwise_map]; exact ht.nd
    have h1 := List.Nodup.length_le_of_subset nt (l₂ := u.ents.map (·.1)) fun x hx => by
      obtain ⟨p, hp, rfl⟩ := List.mem_map.1 hx
      obtain ⟨i, hi⟩ := has_look (h.nm p.1 (has_iff.2 ⟨p.2, hp⟩))
      exact List.mem_map.2 ⟨_, look_mem hi, rfl⟩
    have h2 := List.Nodup.length_le_of_subset nu (l₂ := t.ents.map (·.1)) fun x hx => by
      obtain ⟨p, hp, rfl⟩ := List.mem_map.1 hx
      obtain ⟨i, hi⟩ := has_look (k.nm p.1 (has_iff.2 ⟨p.2, hp⟩))
      exact List.mem_map.2 ⟨_, look_mem hi, rfl⟩
    simp only [List.length_map] at h1 h2
    omega
  · obtain ⟨i, hi⟩ := has_look (h.nm p.1 (has_iff.2 ⟨p.2, hp⟩))
    exact ⟨i, hi, h.file hu (look_of ht.nd hp) hi⟩
  · constructor
    · intro e
      have : t.alike p.1 q.1 = true := by rw [alike_of (look_of ht.nd hp) (look_of ht.nd hq), e]; simp
      exact alike_file (k.alike ht this) hi hj
    · intro e
      have : u.alike p.1 q.1 = true := by rw [alike_of hi hj, e]; simp
      exact alike_file (h.alike hu this) (look_of ht.nd hp) (look_of ht.nd hq)
theorem same_agree {t u : T} (ht : Std t) (hu : Std u) (hd : Dir1 t) (h : Same t u) : Agree t u := by
  obtain ⟨h1, h2, h3⟩ := Same.symm ht.nd hu.nd h
  refine ⟨fun s hs => ?_, fun i hi => ?_⟩
  · obtain ⟨k, hk⟩ := has_look hs
    obtain ⟨j, hj, _⟩ := h.2.1 _ (look_mem hk)
    exact look_has hj
  · obtain ⟨k, hk⟩ := has_look (names_mem.1 (List.getElem_mem hi))
    obtain ⟨j, hj, e⟩ := h2 _ (look_mem hk)
    simp only at hj e
    refine ⟨j, k, hj, hk, fun _ => e.symm, fun hf => ?_⟩
    obtain ⟨hm, ha⟩ := first_spec hf
    obtain ⟨kf, hkf⟩ := has_look (names_mem.1 (List.mem_of_mem_take hm))
    obtain ⟨jf, hjf, ef⟩ := h2 _ (look_mem hkf)
    simp only at hjf ef
    have e1 := alike_file ha hkf hk
    have e2 : jf = j := (h3 _ (look_mem hkf) _ (look_mem hk) jf j hjf hj).1 e1
    refine ⟨fun h53 => ?_, by rw [alike_of hj hjf, e2]; simp⟩
    have hne := hd _ (look_mem hjf) _ (look_mem hj) e2 (by simp only; rw [e2]; exact h53)
    simp only at hne
    rw [hne] at hm
    have hnd := names_nodup hu.nd
    have h4 := List.take_append_drop i u.names
    rw [← h4, List.drop_eq_getElem_cons hi] at hnd
    exact (List.nodup_append.1 hnd).2.2 _ hm _ (List.mem_cons_self ..) rfl

/-- The law of DifferAll. -/
theorem differ_all {t u : T} (ht : Std t) (hu : Std u) (hd : Dir1 t) (hd2 : Dir1 u) (a b : Bool) :
    (compare t (list u a) = [] ∧ compare u (list t b) = [] ∧ more t (list u a) = [] ∧ more u (list t b) = []) ↔ Same t u := by
  rw [compare_list hu, compare_list ht, more_list hu, more_list ht]
  constructor
  · rintro ⟨h1, h2, h3, h4⟩
    exact agree_same ht hu ⟨h3, h1⟩ ⟨h4, h2⟩
  · intro h
    have x := same_agree ht hu hd h
    have y := same_agree hu ht hd2 (Same.symm ht.nd hu.nd h)
    exact ⟨x.fi, y.fi, x.nm, y.nm⟩

end Pk

namespace Pk
open Pth Tre

theorem compareGo_app (t : T) : ∀ (l m : List Ent) (i : Nat), compareGo t i (l ++ m) = compareGo t i l ++ compareGo t (i + l.length) m
  | [], m, i => rfl
  | e :: l, m, i => by
    show (comparedE t e).map (fun c => (i, c)) ++ compareGo t (i + 1) (l ++ m) = ((comparedE t e).map (fun c => (i, c)) ++ compareGo t (i + 1) l) ++ _
    rw [compareGo_app t l m (i + 1), List.append_assoc, List.length_cons]
    congr 3
    omega
/-- All members but one agree. -/
theorem compareGo_one (t : T) (l : List Ent) (m : Nat) (hm : m < l.length) (c : List Int) (h : comparedE t l[m] = c) (hno : ∀ i (hi : i < l.length), i ≠ m → comparedE t l[i] = []) : compareGo t 0 l = c.map fun x => (m, x) := by
  have e : l = l.take m ++ l[m] :: l.drop (m + 1) := by
    rw [← List.drop_eq_getElem_cons hm, List.take_append_drop]
  rw [e, compareGo_app, List.length_take, Nat.min_eq_left (by omega), Nat.zero_add]
  have h1 : compareGo t 0 (l.take m) = [] := (compareGo_nil t _ 0).2 fun e he => by
    obtain ⟨i, hi, rfl⟩ := List.getElem_of_mem he
    have hi' : i < m := by rw [List.length_take] at hi; omega
    rw [List.getElem_take]
    exact hno i (by omega) (by omega)
  have h2 : compareGo t (m + 1) (l.drop (m + 1)) = [] := (compareGo_nil t _ (m + 1)).2 fun e he => by
    obtain ⟨i, hi, rfl⟩ := List.getElem_of_mem he
    have hi' : m + 1 + i < l.length := by rw [List.length_drop] at hi; omega
    rw [List.getElem_drop]
    exact hno (m + 1 + i) hi' (by omega)
  rw [h1, List.nil_append]
  show (comparedE t l[m]).map (fun c => (m, c)) ++ compareGo t (m + 1) (l.drop (m + 1)) = _
  rw [h2, List.append_nil, h]

def chmod (a : Bs) (n : Int) : Deed := ⟨6, a, [], n, Tre.zero⟩

/-- The law of DifferOne. -/
theorem differ_one {t : T} (ht : Std t) (hd : Dir1 t) {i : Nat} (hi : i < t.names.length) {k : Nat} (hk : look t.ents t.names[i] = some k) {n : Int} (h0 : 0 ≤ n) (h1 : n ≤ 4095) :
    (act t (chmod t.names[i] n)).2 = 0 ∧ ∃ m, ∃ hm : m < t.names.length, (∀ j (hj : j < m), (act t (chmod t.names[i] n)).1.alike t.names[i] t.names[j] = false) ∧ (act t (chmod t.names[i] n)).1.alike t.names[i] t.names[m] = true ∧
      compare (act t (chmod t.names[i] n)).1 (list t false) = if (t.file k).mode = n then [] else [(m, 3)] := by
  obtain ⟨hr, _, nn, hfl, hrn⟩ := ht.ok _ (look_mem hk)
  simp only at hr hfl
  have hrk : rightN (t.file k) = true := by unfold T.file; rw [hfl]; exact hrn
  have hch : changed (t.file k) (chmod t.names[i] n) = { t.file k with mode := n } := by unfold changed chmod; simp
  have hrc : rightN (changed (t.file k) (chmod t.names[i] n)) = true := by
    rw [hch]
    obtain ⟨⟨a0, a1⟩, ⟨a2, a3, a4, a5⟩, a6, a7, ⟨a8, a9⟩, a10, a11, a12⟩ := rightN_parts hrk
    unfold txt at a7
    simp only [Bool.and_eq_true] at a7
    unfold rightN
    simp only
    rw [a0, a1, a3, a4, a5, a6, a7.1, a7.2, a8, a9, a10]
    have : inR n 0 4095 = true := by unfold inR; simp [h0, h1]
    rw [this]
    by_cases h48 : (t.file k).kind = 48
    · rw [if_pos h48]; simp [a11 h48]
    · rw [if_neg h48]; simp [a12 h48]
  have ha := act_turn hk (.inl rfl) n Tre.zero hrc
  have ha' : act t (chmod t.names[i] n) = (⟨t.ents, upd t.fl k (some { t.file k with mode := n }), t.nx⟩, 0) := by
    have : act t (chmod t.names[i] n) = (⟨t.ents, upd t.fl k (some (changed (t.file k) (chmod t.names[i] n))), t.nx⟩, 0) := ha
    rw [this, hch]
  rw [ha']
  obtain ⟨t2, ht2⟩ : ∃ t2 : T, t2 = ⟨t.ents, upd t.fl k (some { t.file k with mode := n }), t.nx⟩ := ⟨_, rfl⟩
  rw [← ht2]
  have he : t2.ents = t.ents := by rw [ht2]
  have hal : ∀ a b, t2.alike a b = t.alike a b := fun a b => by unfold T.alike; rw [he]
  have hfk : t2.file k = { t.file k with mode := n } := by rw [ht2]; exact file_upd_same t k _ _ _
  have hfo : ∀ j, j ≠ k → t2.file j = t.file j := fun j hj => by rw [ht2]; exact file_upd_other t hj _ _ _
  have hkind : ∀ j, (t2.file j).kind = (t.file j).kind := fun j => by
    by_cases e : j = k
    · rw [e, hfk]
    · rw [hfo j e]
  refine ⟨rfl, ?_⟩
  obtain ⟨m, hm, hmi, ham, hno, hfm, hfi⟩ := head_of ht hi
  obtain ⟨km, hkm⟩ := has_look (names_mem.1 (List.getElem_mem hm))
  have hkmk : km = k := alike_file ham hkm hk
  subst hkmk
  refine ⟨m, hm, fun j hj => ?_, by rw [hal, alike_comm]; exact ham, ?_⟩
  · rw [hal, alike_comm]
    exact hno _ (List.mem_take_iff_getElem.2 ⟨j, by omega, rfl⟩)
  have hself := (compare_list ht false (t := t)).1 (differ_none ht hd false).1
  have hfit : ∀ j (hj : j < t.names.length), (j ≠ m ∨ (t.file km).mode = n) → Fits t2 t (t.names.take j) t.names[j] := by
    intro j hj hjm
    obtain ⟨x, y, a, b, c, d⟩ := hself j hj
    refine ⟨x, y, by rw [he]; exact a, b, fun hf => ?_, fun hf => ?_⟩
    · have hc := c hf
      by_cases e : x = km
      · rcases hjm with hjm | hmode
        · exfalso
          have hja : t.alike t.names[j] t.names[m] = true := by rw [alike_of a hkm, e]; simp
          rcases Nat.lt_trichotomy j m with h3 | h3 | h3
          · have := hno t.names[j] (List.mem_take_iff_getElem.2 ⟨j, by omega, rfl⟩)
            rw [alike_trans hja ham] at this; cases this
          · exact hjm h3
          · have hmem : t.names[m] ∈ t.names.take j := List.mem_take_iff_getElem.2 ⟨m, by omega, rfl⟩
            have hne : ∀ z ∈ t.names.take j, z ≠ [] := fun z hz => by
              obtain ⟨_, _, hrz, _⟩ := ht.name (List.mem_of_mem_take hz)
              exact right_ne hrz
            have := first_none hf hne _ hmem
            rw [alike_comm] at this
            rw [this] at hja; cases hja
        · rw [e] at hc ⊢
          rw [hfk, ← hmode]
          exact hc
      · rw [hfo x e]; exact hc
    · obtain ⟨d1, d2⟩ := d hf
      exact ⟨by rw [hkind]; exact d1, by rw [hal]; exact d2⟩
  by_cases hmode : (t.file km).mode = n
  · rw [if_pos hmode]
    exact (compare_list ht false).2 fun j hj => hfit j hj (.inr hmode)
  · rw [if_neg hmode]
    have hml : m < (list t false).length := by rw [list_len]; exact hm
    have h3 : ∀ j (hj : j < (list t false).length), j ≠ m → comparedE t2 (list t false)[j] = [] := fun j hj hne => by
      have hj' : j < t.names.length := by rw [list_len] at hj; exact hj
      rw [list_get t false j hj']
      exact (compared_memb ht false (List.getElem_mem hj') fun x hx => List.mem_of_mem_take hx).2 (hfit j hj' (.inl hne))
    have h4 : comparedE t2 (list t false)[m] = [3] := by
      rw [list_get t false m hm]
      have hrm := (ht.ok _ (look_mem hkm)).1
      simp only at hrm
      have hk49 : (t.file km).kind ≠ 49 := by
        have := (rightN_parts hrk).1.2
        simpa using this
      unfold memb
      rw [nodeAt_of hkm, if_pos hfm]
      unfold entry
      rw [if_pos rfl]
      unfold comparedE whole
      simp only
      rw [(right_clean hrm).2, if_neg (by simp [right_ne hrm]), get_of (by rw [he]; exact hkm)]
      simp only
      rw [if_neg hk49, hfk, if_neg (by simp)]
      unfold diffs bytesE sparse
      simp only
      have e3 : (n == (t.file km).mode) = false := beq_eq_false_iff_ne.2 fun e => hmode e.symm
      rw [e3]
      simp [tell]
    exact compareGo_one t2 (list t false) m hml [3] h4 h3

end Pk

namespace Pk
open Pth Tre

theorem create_ok {t : T} {x : Deed} (h1 : x.what = 1) (h : (act t x).2 = 0) : look t.ents x.name = none ∧ (act t x).1.ents = t.ents ++ [(x.name, t.nx + 1)] := by
  unfold act at h ⊢
  rw [if_pos h1] at h ⊢
  unfold create at h ⊢
  split at h
  · cases h
  · split at h
    · rename_i _ h3
      exact absurd h h3
    · rename_i h2 h3
      have hs : space t x.name = 0 := by simpa using h3
      have hr := (room_zero (space_zero hs).1).2.1
      refine ⟨by unfold T.has at hr; simpa using hr, ?_⟩
      rw [if_neg h2, if_neg h3]

/-- A name that is made is all that is more. -/
theorem more_made {t : T} (ht : Std t) {x : Deed} (h1 : x.what = 1) (h : (act t x).2 = 0) (holes : Bool) : more (act t x).1 (list t holes) = [x.name] := by
  obtain ⟨hn, he⟩ := create_ok h1 h
  have hst := ht.act x
  obtain ⟨u, hu⟩ : ∃ u, u = (act t x).1 := ⟨_, rfl⟩
  rw [← hu] at he hst ⊢
  have hnone : ∀ s, s ∈ u.names → ((list t holes).any fun e => clean e.name == s) = !(s == x.name) := by
    intro s hs
    obtain ⟨k, hk⟩ := has_look (names_mem.1 hs)
    rw [he, look_snoc] at hk
    by_cases e : s = x.name
    · rw [e]
      have : ((list t holes).any fun e => clean e.name == x.name) = false := by
        rw [List.any_eq_false]
        intro y hy hc
        have hmem := (list_names ht holes x.name).1 ⟨y, hy, by simpa using hc⟩
        obtain ⟨k2, hk2⟩ := has_look (names_mem.1 hmem)
        rw [hn] at hk2; cases hk2
      rw [this]; simp
    · have hin : s ∈ t.names := by
        refine names_mem.2 ?_
        unfold T.has
        cases hl : look t.ents s with
        | some _ => rfl
        | none => rw [hl] at hk; simp [e] at hk
      obtain ⟨y, hy, hc⟩ := (list_names ht holes s).2 hin
      have : ((list t holes).any fun e => clean e.name == s) = true := List.any_eq_true.2 ⟨y, hy, by simp [hc]⟩
      rw [this]; simp [e]
  unfold more
  have e1 : u.names.filter (fun s => !((list t holes).any fun e => clean e.name == s)) = u.names.filter fun s => s == x.name := List.filter_congr fun s hs => by rw [hnone s hs]; simp
  rw [e1]
  have hmem : x.name ∈ u.names := by
    refine names_mem.2 (has_iff.2 ⟨t.nx + 1, ?_⟩)
    rw [he]; simp
  have hnd := names_nodup hst.nd
  obtain ⟨a, b, hl⟩ := List.append_of_mem hmem
  rw [hl] at hnd ⊢
  have hna : x.name ∉ a := fun h3 => (List.nodup_append.1 hnd).2.2 _ h3 _ (List.mem_cons_self ..) rfl
  have hnb : x.name ∉ b := (List.nodup_cons.1 (List.nodup_append.1 hnd).2.1).1
  have fa : a.filter (fun s => s == x.name) = [] := List.filter_eq_nil_iff.2 fun y hy hc => hna ((by simpa using hc : y = x.name) ▸ hy)
  have fb : b.filter (fun s => s == x.name) = [] := List.filter_eq_nil_iff.2 fun y hy hc => hnb ((by simpa using hc : y = x.name) ▸ hy)
  rw [List.filter_append, fa, List.filter_cons_of_pos (by simp), fb]
  rfl

theorem compareGo_mem (t : T) : ∀ (l : List Ent) (i k : Nat) (hk : k < l.length) (c : Int), c ∈ comparedE t l[k] → (i + k, c) ∈ compareGo t i l
  | e :: l, i, 0, _, c, h => List.mem_append.2 (.inl (List.mem_map.2 ⟨c, h, rfl⟩))
  | e :: l, i, k + 1, hk, c, h => by
    refine List.mem_append.2 (.inr ?_)
    have := compareGo_mem t l (i + 1) k (by simpa using hk) c h
    rwa [show i + 1 + k = i + (k + 1) by omega] at this

/-- What is removed is told as gone. -/
theorem compare_gone {t u : T} (ht : Std t) (hu : Std u) (hsub : ∀ s, t.has s = true → u.has s = true) {i : Nat} (hi : i < t.names.length) (holes : Bool) (h : (act u (rmv t.names[i])).2 = 0) : (i, (1 : Int)) ∈ compare (act u (rmv t.names[i])).1 (list t holes) := by
  obtain ⟨k, hk⟩ := has_look (names_mem.1 (List.getElem_mem hi))
  have hr := (ht.ok _ (look_mem hk)).1
  simp only at hr
  have hg : (act u (rmv t.names[i])).1.get t.names[i] = none := by
    rcases remove_tells hu (hsub _ (look_has hk)) (x := rmv t.names[i]) ⟨rfl, rfl⟩ with ⟨_, h2, _⟩ | ⟨_, _, h3, _⟩
    · rw [h] at h2; cases h2
    · exact h3
  have hl : i < (list t holes).length := by rw [list_len]; exact hi
  have hm : (1 : Int) ∈ comparedE (act u (rmv t.names[i])).1 (list t holes)[i] := by
    rw [list_get t holes i hi]
    obtain ⟨k2, _, hn, _⟩ := memb_ok ht holes (List.getElem_mem hi) fun x hx => List.mem_of_mem_take (i := i) hx
    unfold comparedE
    rw [hn, (right_clean hr).2, if_neg (by simp [right_ne hr]), hg]
    simp
  have := compareGo_mem (act u (rmv t.names[i])).1 (list t holes) 0 i hl 1 hm
  rwa [Nat.zero_add] at this

end Pk

namespace Pk
open Pth Tre

def stays (old now : T) (s : Bs) : Bool := decide (0 < now.links s) && (old.isDir s == now.isDir s)
def gone (old now : T) : List Bs := (old.names.filter fun s => !(stays old now s)).reverse
def likeIn (old now : T) (s : Bs) : Bool := !((old.names ++ now.names).any fun x => old.alike s x != now.alike s x)
def held (old now : T) (e : Ent) : Bool := match old.get e.name with
  | none => false
  | some a => decide (a = nodeAt now e.name) && likeIn old now e.name
def changed_ (old now : T) (holes : Bool) : List Ent := (list now holes).filter fun e => !(held old now e)

theorem changed_none (t : T) (holes : Bool) : changed_ none_ t holes = list t holes := by
  unfold changed_
  rw [List.filter_eq_self]
  intro e _
  rfl
theorem names_none : none_.names = [] := List.length_eq_zero_iff.1 (by rw [names_len]; rfl)
theorem list_none (holes : Bool) : list none_ holes = [] := by unfold list; rw [names_none]; rfl
theorem changed_to_none (t : T) (holes : Bool) : changed_ t none_ holes = [] := by unfold changed_; rw [list_none]; rfl
theorem gone_none (t : T) : gone none_ t = [] := by unfold gone; rw [names_none]; rfl
theorem gone_to_none (t : T) : gone t none_ = t.names.reverse := by
  unfold gone
  congr 1
  rw [List.filter_eq_self]
  intro s _
  unfold stays
  rw [links_nil rfl]
  rfl
theorem gone_mem {t u : T} {s : Bs} (h : s ∈ gone t u) : s ∈ t.names := by
  unfold gone at h
  exact (List.mem_filter.1 (List.mem_reverse.1 h)).1
theorem names_strict {t : T} (ht : Std t) : t.names.Pairwise fun a b => cmp (parts a) (parts b) < 0 := by
  have h1 := names_sorted t
  have h2 := names_nodup ht.nd
  rw [List.nodup_iff_pairwise_ne] at h2
  refine (List.Pairwise.and_mem.1 (h1.and h2)).imp fun {a b} ⟨ha, hb, hle, hne⟩ => ?_
  rcases Int.lt_or_eq_of_le hle with h | h
  · exact h
  · obtain ⟨_, _, ra, _⟩ := ht.name ha
    obtain ⟨_, _, rb, _⟩ := ht.name hb
    exact absurd (parts_inj ra rb ((cmp_zero _ _).1 h)) hne
/-- What is gone stands in the order turned. -/
theorem gone_strict {t u : T} (ht : Std t) : (gone t u).Pairwise fun a b => cmp (parts b) (parts a) < 0 := by
  unfold gone
  rw [List.pairwise_reverse]
  exact (names_strict ht).filter _

end Pk

namespace Pk
open Pth Tre

theorem get_has {t : T} {s : Bs} : t.has s = (t.get s).isSome := by unfold T.has T.get; rw [Option.isSome_map]
theorem get_none {t : T} {s : Bs} : t.get s = none ↔ look t.ents s = none := by unfold T.get; rw [Option.map_eq_none_iff]
/-- The same names with the same files, and the same fellows. -/
theorem same_of {t u : T} (ht : Apart t.ents) (hu : Apart u.ents) (hg : ∀ s, t.get s = u.get s) (ha : ∀ s x, t.alike s x = u.alike s x) : Same t u := by
  have hh : ∀ s, t.has s = u.has s := fun s => by rw [get_has, get_has, hg]
  refine ⟨?_, fun p hp => ?_, fun p hp q hq i j hi hj => ?_⟩
  · have nu : (u.ents.map (·.1)).Nodup := by rw [List.nodup_iff_pairwise_ne, List.pairwise_map]; exact hu
    have nt : (t.ents.map (·.1)).Nodup := by rw [List.nodup_iff_pairwise_ne, List.pairwise_map]; exact ht
    have h1 := List.Nodup.length_le_of_subset nt (l₂ := u.ents.map (·.1)) fun x hx => by
      obtain ⟨p, hp, rfl⟩ := List.mem_map.1 hx
      obtain ⟨i, hi⟩ := has_look ((hh p.1).symm.trans (has_iff.2 ⟨p.2, hp⟩))
      exact List.mem_map.2 ⟨_, look_mem hi, rfl⟩
    have h2 := List.Nodup.length_le_of_subset nu (l₂ := t.ents.map (·.1)) fun x hx => by
      obtain ⟨p, hp, rfl⟩ := List.mem_map.1 hx
      obtain ⟨i, hi⟩ := has_look ((hh p.1).trans (has_iff.2 ⟨p.2, hp⟩))
      exact List.mem_map.2 ⟨_, look_mem hi, rfl⟩
    simp only [List.length_map] at h1 h2
    omega
  · obtain ⟨k, hk⟩ := has_look ((hh p.1).symm.trans (has_iff.2 ⟨p.2, hp⟩))
    have := hg p.1
    rw [get_of (look_of ht hp), get_of hk] at this
    exact ⟨k, hk, Option.some.inj this⟩
  · have := ha p.1 q.1
    rw [alike_of (look_of ht hp) (look_of ht hq), alike_of hi hj] at this
    constructor
    · intro e; rw [e] at this; simpa using this.symm
    · intro e; rw [e] at this; simpa using this

/-- How u comes of t at the names: f tells the file at s (none: as before), z says whose fellows are lost. -/
structure Step (t u : T) (f : Bs → Option Nd) (z : Bs → Bool) : Prop where
  st : Std u
  d1 : Dir1 u
  gt : ∀ s, u.get s = match f s with | some n => some n | none => t.get s
  al : ∀ s x, s ≠ x → u.alike s x = (!(z s) && !(z x) && t.alike s x)

theorem alike_has {t : T} {a b : Bs} (h : t.has b = false) : t.alike a b = false := by
  refine alike_no ?_
  unfold T.has at h
  simpa using h
/-- A file that is made. -/
theorem step_make {t : T} (ht : Std t) (hd : Dir1 t) {s : Bs} {n : Nd} (h : (act t ⟨1, s, [], 0, n⟩).2 = 0) : Step t (act t ⟨1, s, [], 0, n⟩).1 (fun x => if x = s then some n else none) (fun x => x == s) ∧ t.get s = none := by
  have hst := ht.act ⟨1, s, [], 0, n⟩
  have hd1 := hd.act ht ⟨1, s, [], 0, n⟩
  obtain ⟨hn, _⟩ := create_ok rfl h
  simp only at hn
  have hcr : act t ⟨1, s, [], 0, n⟩ = (⟨t.ents ++ [(s, t.nx + 1)], upd t.fl (t.nx + 1) (some n), t.nx + 1⟩, 0) := by
    unfold act at h ⊢
    rw [if_pos rfl] at h ⊢
    unfold create at h ⊢
    split at h
    · cases h
    · split at h
      · rename_i _ h3; exact absurd h h3
      · rename_i h2 h3
        rw [if_neg h2, if_neg h3]
  rw [hcr] at hst hd1 ⊢
  have hlt : ∀ x k, look t.ents x = some k → k ≠ t.nx + 1 := fun x k hk e => by have := (ht.ok _ (look_mem hk)).2.1; simp only at this; omega
  refine ⟨⟨hst, hd1, fun x => ?_, fun x y hxy => ?_⟩, get_none.2 hn⟩
  · by_cases e : x = s
    · subst e
      rw [if_pos rfl, get_of (k := t.nx + 1) (by simp only; rw [look_snoc, hn]; simp), file_upd_same]
    · rw [if_neg e]
      cases hl : look t.ents x with
      | none =>
        have : T.get ⟨t.ents ++ [(s, t.nx + 1)], upd t.fl (t.nx + 1) (some n), t.nx + 1⟩ x = none := get_none.2 (by simp only; rw [look_snoc, hl]; simp [e])
        rw [this]; exact (get_none.2 hl).symm
      | some k =>
        rw [get_of (k := k) (by simp only; rw [look_snoc, hl]; rfl), get_of hl, file_upd_other t (hlt x k hl)]
  · unfold T.alike
    simp only
    rw [look_snoc, look_snoc]
    by_cases e1 : x = s
    · subst e1
      rw [hn]
      have e2 : ¬ y = x := fun e => hxy e.symm
      cases hly : look t.ents y with
      | none => simp [e2]
      | some k => simp; exact fun e => hlt y k hly e.symm
    · by_cases e2 : y = s
      · subst e2
        rw [hn]
        cases hlx : look t.ents x with
        | none => simp [e1]
        | some k => simp; exact fun e => hlt x k hlx e
      · have b1 : (x == s) = false := beq_eq_false_iff_ne.2 e1
        have b2 : (y == s) = false := beq_eq_false_iff_ne.2 e2
        rw [b1, b2]
        cases look t.ents x <;> cases look t.ents y <;> simp [e1, e2]

/-- A name that is taken away, and then made. -/
theorem step_rmv {t : T} (ht : Std t) (hd : Dir1 t) {s : Bs} (h : (act t (rmv s)).2 = 0) : Std (act t (rmv s)).1 ∧ Dir1 (act t (rmv s)).1 ∧ (act t (rmv s)).1.get s = none ∧ (∀ x, x ≠ s → (act t (rmv s)).1.get x = t.get x) ∧ (∀ x y, x ≠ s → y ≠ s → (act t (rmv s)).1.alike x y = t.alike x y) := by
  have hst := ht.act (rmv s)
  have hd1 := hd.act ht (rmv s)
  cases hl : look t.ents s with
  | none =>
    exfalso
    unfold act rmv at h
    simp only at h
    rw [if_neg (by omega), if_neg (by omega), hl] at h
    cases h
  | some j =>
    have hi : ¬ 1 < (t.inside s).length := fun hi => by
      unfold act rmv at h
      simp only at h
      rw [if_neg (by omega), if_neg (by omega), hl] at h
      simp only at h
      rw [if_neg (by omega), if_pos trivial] at h
      unfold remove at h
      simp only at h
      rw [if_pos hi] at h
      cases h
    have ha := act_rmv hl hi
    rw [ha] at hst hd1 ⊢
    refine ⟨hst, hd1, get_none.2 (look_filter_self _ _), fun x hx => ?_, fun x y hx hy => ?_⟩
    · cases hlx : look t.ents x with
      | none => rw [get_none.2 hlx]; exact get_none.2 (by simp only; rw [look_filter _ _ _ hx]; exact hlx)
      | some k =>
        rw [get_of hlx, get_of (k := k) (by simp only; rw [look_filter _ _ _ hx]; exact hlx)]
        unfold T.file
        simp only
        rw [show (if t.links s = 1 then upd t.fl j none else t.fl) k = t.fl k from remove_file ht.nd hl (look_mem hlx) hx]
    · unfold T.alike
      simp only
      rw [look_filter _ _ _ hx, look_filter _ _ _ hy]

end Pk

namespace Pk
open Pth Tre

def dirN : Nd := ⟨53, 493, 0, 0, 0, 0, [], [], 0, 0⟩
/-- The directories of a name: those that lack are made. -/
theorem ways_step {t : T} (ht : Std t) (hd : Dir1 t) : ∀ (l : List Bs), (ways t l).2 = 0 → Step t (ways t l).1 (fun x => if x ∈ l ∧ t.has x = false then some dirN else none) (fun x => decide (x ∈ l) && !(t.has x)) ∧ ∀ a ∈ l, (ways t l).1.isDir a = true
  | [], _ => by
    refine ⟨⟨ht, hd, fun s => ?_, fun s x _ => ?_⟩, fun a ha => (by cases ha)⟩
    · rw [if_neg (by simp)]; rfl
    · simp; rfl
  | a :: r, h => by
    unfold ways at h ⊢
    cases hg : t.get a with
    | none =>
      rw [hg] at h
      simp only at h ⊢
      by_cases hm : (act t (mkdir a)).2 ≠ 0
      · rw [if_pos hm] at h; exact absurd h hm
      · rw [if_neg hm] at h ⊢
        have hm0 : (act t (mkdir a)).2 = 0 := by simpa using hm
        obtain ⟨s1, _⟩ := step_make ht hd (s := a) (n := dirN) hm0
        have e1 : act t (mkdir a) = act t ⟨1, a, [], 0, dirN⟩ := rfl
        rw [e1] at h ⊢
        obtain ⟨u, hu⟩ : ∃ u, u = (act t ⟨1, a, [], 0, dirN⟩).1 := ⟨_, rfl⟩
        rw [← hu] at s1 h ⊢
        obtain ⟨s2, hdir⟩ := ways_step s1.st s1.d1 r h
        have hua : u.get a = some dirN := by rw [s1.gt]; simp
        have huo : ∀ x, x ≠ a → u.get x = t.get x := fun x hx => by rw [s1.gt]; simp [hx]
        have hta : t.has a = false := by rw [get_has, hg]; rfl
        have huh : ∀ x, u.has x = (decide (x = a) || t.has x) := fun x => by
          rw [get_has, get_has]
          by_cases e : x = a
          · subst e; rw [hua]; simp
          · rw [huo x e]; simp [e]
        refine ⟨⟨s2.st, s2.d1, fun x => ?_, fun x y hxy => ?_⟩, fun b hb => ?_⟩
        · rw [s2.gt, s1.gt]
          by_cases e : x = a
          · subst e
            have h1 : ¬ (x ∈ r ∧ u.has x = false) := fun hc => by have := hc.2; rw [huh] at this; simp at this
            rw [if_neg h1]
            simp [hta]
          · have h1 : (x ∈ r ∧ u.has x = false) ↔ (x ∈ a :: r ∧ t.has x = false) := by rw [huh]; simp [e]
            by_cases h2 : x ∈ a :: r ∧ t.has x = false
            · rw [if_pos h2, if_pos (h1.2 h2)]
            · rw [if_neg h2, if_neg (fun hc => h2 (h1.1 hc))]
              simp [e]
        · rw [s2.al x y hxy, s1.al x y hxy]
          have key : ∀ x : Bs, (!(decide (x ∈ r) && !(u.has x)) && !(x == a)) = (!(decide (x ∈ a :: r) && !(t.has x))) := fun x => by
            rw [huh]
            by_cases e : x = a
            · subst e; simp [hta]
            · simp [e]
          rw [← key x, ← key y]
          cases (decide (x ∈ r) && !(u.has x)) <;> cases (decide (y ∈ r) && !(u.has y)) <;> cases (x == a) <;> cases (y == a) <;> rfl
        · rcases List.mem_cons.1 hb with e | hb
          · subst e
            unfold T.isDir T.isKind
            rw [s2.gt, hua]
            split
            · rename_i n hn
              split at hn
              · rename_i m hm2
                split at hm2
                · cases hm2; cases hn; rfl
                · cases hm2
              · cases hn; rfl
            · rename_i hn
              split at hn <;> cases hn
          · exact hdir b hb
    | some n =>
      rw [hg] at h
      simp only at h ⊢
      by_cases hk : n.kind ≠ 53
      · rw [if_pos hk] at h; cases h
      · rw [if_neg hk] at h ⊢
        obtain ⟨s2, hdir⟩ := ways_step ht hd r h
        have hta : t.has a = true := by rw [get_has, hg]; rfl
        refine ⟨⟨s2.st, s2.d1, fun x => ?_, fun x y hxy => ?_⟩, fun b hb => ?_⟩
        · rw [s2.gt]
          by_cases e : x = a
          · subst e
            simp [hta]
          · simp [e]
        · rw [s2.al x y hxy]
          have key : ∀ x : Bs, (decide (x ∈ r) && !(t.has x)) = (decide (x ∈ a :: r) && !(t.has x)) := fun x => by
            by_cases e : x = a
            · subst e; simp [hta]
            · simp [e]
          rw [key x, key y]
        · rcases List.mem_cons.1 hb with e | hb
          · subst e
            unfold T.isDir T.isKind
            rw [s2.gt]
            simp only [hta]
            simp [hg]
            simpa using hk
          · exact hdir b hb

/-- What stands at the name of a member. -/
def lands (g : Option Nd) (e : Ent) : Nd := match g with
  | none => (node e).1
  | some m => if m.kind = 53 ∧ e.kind = 53 then { m with mode := e.mode, uid := (node e).1.uid, gid := (node e).1.gid, sec := (node e).1.sec, nano := (node e).1.nano } else (node e).1

theorem turns_step {t : T} (ht : Std t) (hd : Dir1 t) {s : Bs} {j : Nat} (hl : look t.ents s = some j) (e : Ent) (n : Nd) (h : (turns t s e n [6, 7, 8]).2 = 0) :
    Std (turns t s e n [6, 7, 8]).1 ∧ Dir1 (turns t s e n [6, 7, 8]).1 ∧ (turns t s e n [6, 7, 8]).1.ents = t.ents ∧ (turns t s e n [6, 7, 8]).1.file j = { t.file j with mode := e.mode, uid := n.uid, gid := n.gid, sec := n.sec, nano := n.nano } ∧ ∀ i, i ≠ j → (turns t s e n [6, 7, 8]).1.file i = t.file i := by
  have one : ∀ (v : T) (c : Int), (c = 6 ∨ c = 7 ∨ c = 8) → Std v → Dir1 v → look v.ents s = some j → (act v (turn c s e n)).2 = 0 →
      Std (act v (turn c s e n)).1 ∧ Dir1 (act v (turn c s e n)).1 ∧ (act v (turn c s e n)).1.ents = v.ents ∧ (act v (turn c s e n)).1.file j = changed (v.file j) (turn c s e n) ∧ ∀ i, i ≠ j → (act v (turn c s e n)).1.file i = v.file i := by
    intro v c hc hv hdv hlv h0
    have hst := hv.act (turn c s e n)
    have hd1 := hdv.act hv (turn c s e n)
    have hch : act v (turn c s e n) = change v (turn c s e n) j := act_change hlv (by unfold turn; simp only; omega) rfl
    have hr : rightN (changed (v.file j) (turn c s e n)) = true := by
      cases hr : rightN (changed (v.file j) (turn c s e n)) with
      | true => rfl
      | false =>
        rw [hch] at h0
        unfold change at h0
        rw [if_neg (by unfold turn; simp only; omega), if_neg (by unfold turn; simp only; omega), if_pos hr] at h0
        cases h0
    have ha : act v (turn c s e n) = (⟨v.ents, upd v.fl j (some (changed (v.file j) (turn c s e n))), v.nx⟩, 0) := act_turn hlv hc e.mode n hr
    rw [ha] at hst hd1 ⊢
    exact ⟨hst, hd1, rfl, file_upd_same v j _ _ _, fun i hi => file_upd_other v hi _ _ _⟩
  unfold turns at h ⊢
  by_cases h6 : (act t (turn 6 s e n)).2 ≠ 0
  · rw [if_pos h6] at h; exact absurd h h6
  rw [if_neg h6] at h ⊢
  obtain ⟨a1, a2, a3, a4, a5⟩ := one t 6 (.inl rfl) ht hd hl (by simpa using h6)
  obtain ⟨t6, ht6⟩ : ∃ t6, t6 = (act t (turn 6 s e n)).1 := ⟨_, rfl⟩
  rw [← ht6] at a1 a2 a3 a4 a5 h ⊢
  unfold turns at h ⊢
  by_cases h7 : (act t6 (turn 7 s e n)).2 ≠ 0
  · rw [if_pos h7] at h; exact absurd h h7
  rw [if_neg h7] at h ⊢
  obtain ⟨b1, b2, b3, b4, b5⟩ := one t6 7 (.inr (.inl rfl)) a1 a2 (by rw [a3]; exact hl) (by simpa using h7)
  obtain ⟨t7, ht7⟩ : ∃ t7, t7 = (act t6 (turn 7 s e n)).1 := ⟨_, rfl⟩
  rw [← ht7] at b1 b2 b3 b4 b5 h ⊢
  unfold turns at h ⊢
  by_cases h8 : (act t7 (turn 8 s e n)).2 ≠ 0
  · rw [if_pos h8] at h; exact absurd h h8
  rw [if_neg h8] at h ⊢
  obtain ⟨c1, c2, c3, c4, c5⟩ := one t7 8 (.inr (.inr rfl)) b1 b2 (by rw [b3, a3]; exact hl) (by simpa using h8)
  unfold turns
  refine ⟨c1, c2, c3.trans (b3.trans a3), ?_, fun i hi => (c5 i hi).trans ((b5 i hi).trans (a5 i hi))⟩
  rw [c4, b4, a4]
  unfold changed turn
  simp

end Pk

namespace Pk
open Pth Tre

theorem Step.trans {t u v : T} {f1 f2 : Bs → Option Nd} {z1 z2 : Bs → Bool} (h : Step t u f1 z1) (k : Step u v f2 z2) : Step t v (fun s => match f2 s with | some n => some n | none => f1 s) (fun s => z2 s || z1 s) := by
  refine ⟨k.st, k.d1, fun s => ?_, fun s x hne => ?_⟩
  · rw [k.gt, h.gt]
    cases f2 s <;> cases f1 s <;> rfl
  · rw [k.al s x hne, h.al s x hne]
    cases z2 s <;> cases z2 x <;> cases z1 s <;> cases z1 x <;> rfl
theorem above_not {a : Bs} (hr : right a = true) : a ∉ above a := by
  intro h
  unfold above at h
  obtain ⟨i, hi, e⟩ := List.mem_map.1 h
  have h1 := List.mem_range.1 hi
  have h2 := parts_pre (right_cl hr).1 (i + 1)
  rw [e] at h2
  have := congrArg List.length h2
  rw [List.length_take] at this
  omega
theorem above_inn {a b : Bs} (hr : right a = true) (h : b ∈ above a) : inn a b = true := by
  unfold above at h
  obtain ⟨i, hi, e⟩ := List.mem_map.1 h
  have h1 := List.mem_range.1 hi
  have := inn_pre (right_cl hr).1 (i := i + 1) (by omega) (by omega)
  rw [right_join hr, e] at this
  exact this

theorem node_kind {e : Ent} (h : (node e).2 = 0) : (node e).1.kind = e.kind := by
  unfold node at h ⊢
  split
  · rfl
  · rename_i h1
    rw [if_neg h1] at h
    split at h
    · cases h
    · split at h
      · cases h
      · rename_i h2 h3
        rw [if_neg h2, if_neg h3]; rfl

theorem placed_step {t : T} (ht : Std t) (hd : Dir1 t) {a : Bs} {e : Ent} (hg : ∀ m, t.get a = some m → m.kind = 53 ∧ e.kind = 53) (h : (placed t a e).2 = 0) :
    Step t (placed t a e).1 (fun x => if x = a then some (lands (t.get a) e) else none) (fun x => x == a) := by
  unfold placed at h ⊢
  by_cases hn : (node e).2 ≠ 0
  · rw [if_pos hn] at h; exact absurd h hn
  rw [if_neg hn] at h ⊢
  cases hl : look t.ents a with
  | none =>
    have hg0 : t.get a = none := get_none.2 hl
    rw [hg0] at h ⊢
    simp only at h ⊢
    obtain ⟨s1, _⟩ := step_make ht hd h
    exact s1
  | some j =>
    rw [get_of hl] at h ⊢
    simp only at h ⊢
    obtain ⟨k1, k2⟩ := hg _ (get_of hl)
    obtain ⟨a1, a2, a3, a4, a5⟩ := turns_step ht hd hl e (node e).1 h
    obtain ⟨v, hv⟩ : ∃ v, v = (turns t a e (node e).1 [6, 7, 8]).1 := ⟨_, rfl⟩
    rw [← hv] at a1 a2 a3 a4 a5 ⊢
    refine ⟨a1, a2, fun x => ?_, fun x y hxy => ?_⟩
    · by_cases ex : x = a
      · subst ex
        rw [if_pos rfl, get_of (by rw [a3]; exact hl), a4]
        unfold lands
        simp only
        rw [if_pos ⟨k1, k2⟩]
      · rw [if_neg ex]
        simp only
        cases hlx : look t.ents x with
        | none => rw [get_none.2 hlx]; exact get_none.2 (by rw [a3]; exact hlx)
        | some i =>
          rw [get_of hlx, get_of (by rw [a3]; exact hlx)]
          refine congrArg some (a5 i fun e2 => ex ?_)
          exact hd _ (look_mem hlx) _ (look_mem hl) e2 (by simp only; rw [e2]; exact k1)
    · have hal : v.alike x y = t.alike x y := by unfold T.alike; rw [a3]
      have lone : ∀ z, z ≠ a → t.alike a z = false := fun z hz => by
        cases hlz : look t.ents z with
        | none => exact alike_no hlz
        | some i =>
          rw [alike_of hl hlz]
          refine beq_eq_false_iff_ne.2 fun e2 => hz ?_
          exact (hd _ (look_mem hl) _ (look_mem hlz) e2 (by simp only; exact k1)).symm
      rw [hal]
      by_cases e1 : x = a
      · subst e1; rw [lone y fun e => hxy e.symm]; simp
      · by_cases e2 : y = a
        · subst e2; rw [alike_comm, lone x e1]; simp
        · simp [e1, e2]

/-- What a member, no link, does to each name. -/
theorem into_step {t : T} (ht : Std t) (hd : Dir1 t) {e : Ent} (h49 : e.kind ≠ 49) (hne : clean e.name ≠ []) (h : (into t e).2 = 0) :
    right (clean e.name) = true ∧ Step t (into t e).1 (fun x => if x = clean e.name then some (lands (t.get (clean e.name)) e) else if x ∈ above (clean e.name) ∧ t.has x = false then some dirN else none)
      (fun x => (x == clean e.name) || (decide (x ∈ above (clean e.name)) && !(t.has x))) := by
  obtain ⟨a, ha⟩ : ∃ a, a = clean e.name := ⟨_, rfl⟩
  rw [← ha] at hne ⊢
  unfold into at h ⊢
  by_cases h0 : (into0 t e).2 ≠ 0
  · rw [if_pos h0] at h; exact absurd h h0
  rw [if_neg h0]
  have h1 : (into0 t e).2 = 0 := by simpa using h0
  simp only
  unfold into0 at h1 ⊢
  rw [← ha] at h1 ⊢
  by_cases c1 : rightE e = false
  · rw [if_pos c1] at h1; cases h1
  rw [if_neg c1] at h1 ⊢
  by_cases c2 : cleanOk e.name = false
  · rw [if_pos c2] at h1; cases h1
  rw [if_neg c2] at h1 ⊢
  rw [if_neg (fun hc => hne hc.1)] at h1 ⊢
  by_cases c3 : right a = false
  · rw [if_pos c3] at h1; cases h1
  rw [if_neg c3] at h1 ⊢
  have hr : right a = true := by simpa using c3
  refine ⟨hr, ?_⟩
  rw [if_pos h49] at h1 ⊢
  by_cases c4 : (cleared t a (e.kind == 53)).2 ≠ 0
  · rw [if_pos c4] at h1; exact absurd h1 c4
  rw [if_neg c4] at h1 ⊢
  have c5 : (cleared t a (e.kind == 53)).2 = 0 := by simpa using c4
  unfold cleared at c5 h1 ⊢
  by_cases w0 : (ways t (above a)).2 ≠ 0
  · rw [if_pos w0] at c5; exact absurd c5 w0
  rw [if_neg w0] at c5 h1 ⊢
  obtain ⟨s1, _⟩ := ways_step ht hd (above a) (by simpa using w0)
  obtain ⟨u, hu⟩ : ∃ u, u = (ways t (above a)).1 := ⟨_, rfl⟩
  rw [← hu] at s1 c5 h1 ⊢
  have hna := above_not hr
  have hga : u.get a = t.get a := by rw [s1.gt]; simp [hna]
  have fin : ∀ v, Step u v (fun x => if x = a then some (lands (t.get a) e) else none) (fun x => x == a) → Step t v (fun x => if x = a then some (lands (t.get a) e) else if x ∈ above a ∧ t.has x = false then some dirN else none) (fun x => (x == a) || (decide (x ∈ above a) && !(t.has x))) := by
    intro v k
    have := s1.trans k
    refine ⟨this.st, this.d1, fun x => ?_, this.al⟩
    rw [this.gt]
    by_cases ex : x = a
    · rw [if_pos ex, if_pos ex]
    · rw [if_neg ex, if_neg ex]
  refine fin _ ?_
  unfold wiped at c5 h1 ⊢
  cases hg : u.get a with
  | none =>
    rw [hg] at c5 h1
    simp only at c5 h1 ⊢
    have := placed_step s1.st s1.d1 (a := a) (e := e) (fun m hm => by rw [hg] at hm; cases hm) h1
    rw [hga] at this
    exact this
  | some m =>
    rw [hg] at c5 h1
    simp only at c5 h1 ⊢
    by_cases k53 : m.kind = 53
    · rw [if_pos k53] at c5 h1 ⊢
      by_cases kd : (e.kind == 53) = true
      · rw [if_pos kd] at h1 ⊢
        have := placed_step s1.st s1.d1 (a := a) (e := e) (fun m2 hm => by rw [hg] at hm; cases hm; exact ⟨k53, by simpa using kd⟩) h1
        rw [hga] at this
        exact this
      · rw [if_neg kd] at c5; cases c5
    · rw [if_neg k53] at c5 h1 ⊢
      obtain ⟨r1, r2, r3, r4, r5⟩ := step_rmv s1.st s1.d1 c5
      have := placed_step r1 r2 (a := a) (e := e) (fun m2 hm => by rw [r3] at hm; cases hm) h1
      obtain ⟨v, hv⟩ : ∃ v, v = (placed (act u (rmv a)).1 a e).1 := ⟨_, rfl⟩
      rw [← hv] at this ⊢
      have hl : lands ((act u (rmv a)).1.get a) e = lands (t.get a) e := by
        rw [r3, ← hga, hg]
        unfold lands
        simp only
        rw [if_neg (fun hc => k53 hc.1)]
      rw [hl] at this
      refine ⟨this.st, this.d1, fun x => ?_, fun x y hxy => ?_⟩
      · rw [this.gt]
        by_cases ex : x = a
        · rw [if_pos ex]
        · rw [if_neg ex]
          exact r4 x ex
      · rw [this.al x y hxy]
        by_cases e1 : x = a
        · subst e1; simp
        · by_cases e2 : y = a
          · subst e2; simp
          · rw [r5 x y e1 e2]

/-- The law of PackTwo. -/
theorem pack_two {t : T} (ht : Std t) (hd : Dir1 t) {e f : Ent} (he : e.kind ≠ 49) (hf : f.kind ≠ 49) (ha : clean e.name ≠ []) (hb : clean f.name ≠ []) (hab : inn (clean e.name) (clean f.name) = false) (hba : inn (clean f.name) (clean e.name) = false)
    (h1 : (into t e).2 = 0) (h2 : (into (into t e).1 f).2 = 0) (h3 : (into t f).2 = 0) (h4 : (into (into t f).1 e).2 = 0) : Same (into (into t e).1 f).1 (into (into t f).1 e).1 := by
  obtain ⟨ra, sa⟩ := into_step ht hd he ha h1
  obtain ⟨rb, sb⟩ := into_step ht hd hf hb h3
  obtain ⟨_, sab⟩ := into_step sa.st sa.d1 hf hb h2
  obtain ⟨_, sba⟩ := into_step sb.st sb.d1 he ha h4
  obtain ⟨a, hA⟩ : ∃ a, a = clean e.name := ⟨_, rfl⟩
  obtain ⟨b, hB⟩ : ∃ b, b = clean f.name := ⟨_, rfl⟩
  rw [← hA] at ra sa sba ha hab hba
  rw [← hB] at rb sb sab hb hab hba
  have nab : b ∉ above a := fun h => by rw [above_inn ra h] at hab; cases hab
  have nba : a ∉ above b := fun h => by rw [above_inn rb h] at hba; cases hba
  have hne : a ≠ b := fun h => by rw [h, inn_self] at hab; cases hab
  obtain ⟨t1, ht1⟩ : ∃ t1, t1 = (into t e).1 := ⟨_, rfl⟩
  obtain ⟨u1, hu1⟩ : ∃ u1, u1 = (into t f).1 := ⟨_, rfl⟩
  rw [← ht1] at sa sab ⊢
  rw [← hu1] at sb sba ⊢
  have g1 : t1.get b = t.get b := by rw [sa.gt]; simp [nab, hne.symm]
  have g2 : u1.get a = t.get a := by rw [sb.gt]; simp [nba, hne]
  have hh1 : ∀ x, t1.has x = (decide (x = a) || decide (x ∈ above a) || t.has x) := fun x => by
    rw [get_has, sa.gt]
    by_cases e1 : x = a
    · simp [e1]
    · by_cases e2 : x ∈ above a
      · cases e3 : t.has x with
        | true => rw [if_neg e1, if_neg (by simp)]; simp only; rw [← get_has, e3]; simp
        | false => rw [if_neg e1, if_pos ⟨e2, rfl⟩]; simp [e2]
      · rw [if_neg e1, if_neg (fun hc => e2 hc.1)]; simp only; rw [← get_has]; simp [e1, e2]
  have hh2 : ∀ x, u1.has x = (decide (x = b) || decide (x ∈ above b) || t.has x) := fun x => by
    rw [get_has, sb.gt]
    by_cases e1 : x = b
    · simp [e1]
    · by_cases e2 : x ∈ above b
      · cases e3 : t.has x with
        | true => rw [if_neg e1, if_neg (by simp)]; simp only; rw [← get_has, e3]; simp
        | false => rw [if_neg e1, if_pos ⟨e2, rfl⟩]; simp [e2]
      · rw [if_neg e1, if_neg (fun hc => e2 hc.1)]; simp only; rw [← get_has]; simp [e1, e2]
  have hget : ∀ x, (into t1 f).1.get x = (into u1 e).1.get x := by
    intro x
    rw [sab.gt, sba.gt, g1, g2, sa.gt, sb.gt, hh1, hh2]
    by_cases e1 : x = a
    · subst e1
      simp [hne, nba]
    · by_cases e2 : x = b
      · subst e2
        simp [e1, nab]
      · by_cases e3 : x ∈ above a
        · by_cases e4 : x ∈ above b
          · cases e5 : t.has x <;> simp [e1, e2, e3, e4]
          · cases e5 : t.has x <;> simp [e1, e2, e3, e4]
        · by_cases e4 : x ∈ above b
          · cases e5 : t.has x <;> simp [e1, e2, e3, e4]
          · cases e5 : t.has x <;> simp [e1, e2, e3, e4]
  refine same_of sab.st.nd sba.st.nd hget fun x y => ?_
  by_cases hxy : x = y
  · subst hxy
    have key : ∀ v : T, v.alike x x = v.has x := fun v => by
      unfold T.alike T.has
      cases look v.ents x <;> simp
    rw [key, key, get_has, get_has, hget]
  · rw [sab.al x y hxy, sba.al x y hxy, sa.al x y hxy, sb.al x y hxy, hh1, hh1, hh2, hh2]
    cases hal : t.alike x y with
    | false => simp
    | true =>
      have hx : t.has x = true := by
        cases hc : t.has x with
        | true => rfl
        | false => rw [alike_comm, alike_has hc] at hal; cases hal
      have hy : t.has y = true := by
        cases hc : t.has y with
        | true => rfl
        | false => rw [alike_has hc] at hal; cases hal
      rw [hx, hy]
      simp only [Bool.or_true, Bool.not_true, Bool.and_false, Bool.or_false, Bool.and_true]
      cases (x == a) <;> cases (x == b) <;> cases (y == a) <;> cases (y == b) <;> rfl

end Pk

namespace Pk
open Pth Tre

/-- What actions keep, members keep. -/
theorem ways_keeps {I : T → Prop} (hact : ∀ t x, I t → I (act t x).1) : ∀ (l : List Bs) (t : T), I t → I (ways t l).1
  | [], _, h => h
  | a :: r, t, h => by
    unfold ways
    split
    · split
      · exact hact _ _ h
      · exact ways_keeps hact r _ (hact _ _ h)
    · split
      · exact h
      · exact ways_keeps hact r _ h
theorem cleared_keeps {I : T → Prop} (hact : ∀ t x, I t → I (act t x).1) {t : T} (h : I t) (s : Bs) (dir : Bool) : I (cleared t s dir).1 := by
  unfold cleared
  split
  · exact ways_keeps hact _ _ h
  · unfold wiped
    split
    · exact ways_keeps hact _ _ h
    · split
      · split <;> exact ways_keeps hact _ _ h
      · exact hact _ _ (ways_keeps hact _ _ h)
theorem turns_keeps {I : T → Prop} (hact : ∀ t x, I t → I (act t x).1) (s : Bs) (e : Ent) (n : Nd) : ∀ (l : List Int) (t : T), I t → I (turns t s e n l).1
  | [], _, h => h
  | c :: r, t, h => by
    unfold turns
    split
    · exact hact _ _ h
    · exact turns_keeps hact s e n r _ (hact _ _ h)
theorem placed_keeps {I : T → Prop} (hact : ∀ t x, I t → I (act t x).1) {t : T} (h : I t) (s : Bs) (e : Ent) : I (placed t s e).1 := by
  unfold placed
  split
  · exact h
  · split
    · exact hact _ _ h
    · exact turns_keeps hact _ _ _ _ _ h
theorem into_keeps {I : T → Prop} (hact : ∀ t x, I t → I (act t x).1) {t : T} (h : I t) (e : Ent) : I (into t e).1 := by
  unfold into
  split
  · exact h
  · show I (into0 t e).1
    unfold into0
    repeat' split
    all_goals first | exact h | exact cleared_keeps hact h _ _ | exact placed_keeps hact (cleared_keeps hact h _ _) _ _ | exact hact _ _ (cleared_keeps hact h _ _)
theorem allGo_keeps {I : T → Prop} (hact : ∀ t x, I t → I (act t x).1) : ∀ (l : List Ent) (t : T) (i : Nat), I t → I (allGo t i l).1
  | [], _, _, h => h
  | e :: r, _, _, h => allGo_keeps hact r _ _ (into_keeps hact h e)
theorem both_act (t : T) (x : Deed) (h : Std t ∧ Dir1 t) : Std (act t x).1 ∧ Dir1 (act t x).1 := ⟨h.1.act x, h.2.act h.1 x⟩
theorem all_both {t : T} (ht : Std t) (hd : Dir1 t) (l : List Ent) : Std (all t l).1 ∧ Dir1 (all t l).1 := allGo_keeps (I := fun t => Std t ∧ Dir1 t) both_act l t 0 ⟨ht, hd⟩

/-- What stands at a member's name. -/
theorem into_told {t : T} (ht : Std t) (hd : Dir1 t) {e : Ent} (h : (into t e).2 = 0) :
    cleanOk e.name = true ∧ ((clean e.name = [] ∧ (into t e).1 = t) ∨ ∃ n, (into t e).1.get (clean e.name) = some n ∧ (n.kind = e.kind ∨ e.kind = 49)) := by
  have hin := h
  unfold into at h
  by_cases h0 : (into0 t e).2 ≠ 0
  · rw [if_pos h0] at h; exact absurd h h0
  have hi : (into t e).1 = (into0 t e).1 := by unfold into; rw [if_neg h0]
  have h1 : (into0 t e).2 = 0 := by simpa using h0
  clear h h0
  have hcl : cleanOk e.name = true := by
    unfold into0 at h1
    by_cases c1 : rightE e = false
    · rw [if_pos c1] at h1; cases h1
    rw [if_neg c1] at h1
    by_cases c2 : cleanOk e.name = false
    · rw [if_pos c2] at h1; cases h1
    simpa using c2
  refine ⟨hcl, ?_⟩
  by_cases h49 : e.kind ≠ 49
  · by_cases hne : clean e.name = []
    · refine .inl ⟨hne, ?_⟩
      rw [hi]
      unfold into0 at h1 ⊢
      by_cases c1 : rightE e = false
      · rw [if_pos c1]
      rw [if_neg c1] at h1 ⊢
      rw [if_neg (by rw [hcl]; simp)] at h1 ⊢
      by_cases c3 : clean e.name = [] ∧ e.kind = 53
      · rw [if_pos c3]
      rw [if_neg c3] at h1 ⊢
      have hr : right (clean e.name) = false := by
        cases hc : right (clean e.name) with
        | false => rfl
        | true => exact absurd hne (right_ne hc)
      rw [if_pos hr] at h1; cases h1
    · obtain ⟨_, st⟩ := into_step ht hd h49 hne hin
      refine .inr ⟨lands (t.get (clean e.name)) e, ?_, .inl ?_⟩
      · rw [st.gt]; simp
      · have hnk : (node e).1.kind = e.kind := by
          refine node_kind ?_
          have h2 := h1
          unfold into0 at h2
          by_cases c1 : rightE e = false
          · rw [if_pos c1] at h2; cases h2
          have c1' : rightE e = true := by simpa using c1
          exact (node_right (right_ent c1').2.2.2).1
        unfold lands
        split
        · exact hnk
        · rename_i m _
          by_cases c : m.kind = 53 ∧ e.kind = 53
          · rw [if_pos c]; show m.kind = e.kind; rw [c.1, c.2]
          · rw [if_neg c]; exact hnk
  · have h49 : e.kind = 49 := by simpa using h49
    rw [hi]
    unfold into0 at h1 ⊢
    by_cases c1 : rightE e = false
    · rw [if_pos c1] at h1; cases h1
    rw [if_neg c1] at h1 ⊢
    rw [if_neg (by rw [hcl]; simp)] at h1 ⊢
    rw [if_neg (by rw [h49]; simp)] at h1 ⊢
    by_cases c3 : right (clean e.name) = false
    · rw [if_pos c3] at h1; cases h1
    rw [if_neg c3] at h1 ⊢
    rw [if_neg (by simpa using h49)] at h1 ⊢
    by_cases c4 : (linked t e).2 ≠ 0
    · rw [if_pos c4] at h1; exact absurd h1 c4
    rw [if_neg c4] at h1 ⊢
    by_cases c5 : t.alike (clean e.name) (linked t e).1 = true
    · rw [if_pos c5]
      right
      have hh : t.has (clean e.name) = true := by
        cases hc : t.has (clean e.name) with
        | true => rfl
        | false => rw [alike_comm, alike_has hc] at c5; cases c5
      rw [get_has] at hh
      obtain ⟨n, hn⟩ := Option.isSome_iff_exists.1 hh
      exact ⟨n, hn, .inr h49⟩
    rw [if_neg c5] at h1 ⊢
    by_cases c6 : (cleared t (clean e.name) false).2 ≠ 0
    · rw [if_pos c6] at h1; exact absurd h1 c6
    rw [if_neg c6] at h1 ⊢
    right
    obtain ⟨u, hu⟩ : ∃ u, u = (cleared t (clean e.name) false).1 := ⟨_, rfl⟩
    rw [← hu] at h1 ⊢
    obtain ⟨a, ha⟩ : ∃ a, a = clean e.name := ⟨_, rfl⟩
    rw [← ha] at h1 ⊢
    obtain ⟨b, hb⟩ : ∃ b, b = (linked t e).1 := ⟨_, rfl⟩
    rw [← hb] at h1 ⊢
    have key : ∀ i, look u.ents b = some i → act u ⟨2, b, a, 0, Tre.zero⟩ = again u ⟨2, b, a, 0, Tre.zero⟩ i := fun i hi => by
      unfold act
      simp [hi]
    cases hl : look u.ents b with
    | none =>
      unfold act at h1
      simp [hl] at h1
    | some i =>
      rw [key i hl] at h1 ⊢
      unfold again at h1 ⊢
      simp only at h1 ⊢
      by_cases d1 : u.isDir b = true
      · rw [if_pos d1] at h1; cases h1
      rw [if_neg d1] at h1 ⊢
      by_cases d2 : space u a ≠ 0
      · rw [if_pos d2] at h1; exact absurd h1 d2
      rw [if_neg d2]
      refine ⟨u.file i, ?_, .inr h49⟩
      have hs : space u a = 0 := by simpa using d2
      have hno : look u.ents a = none := by
        unfold space at hs
        by_cases d3 : room u a ≠ 0
        · rw [if_pos d3] at hs; exact absurd hs d3
        have := (room_zero (by simpa using d3 : room u a = 0)).2.1
        unfold T.has at this
        simpa using this
      unfold T.get
      simp only [look_snoc, hno]
      simp
      rfl

end Pk
