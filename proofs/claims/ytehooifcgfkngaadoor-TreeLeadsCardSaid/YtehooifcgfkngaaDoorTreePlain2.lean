/-
  File trees, plain: taking away, moving, changing keep what stands; what is done twice.
-/
import Derived.Test.YtehooifcgfkngaaDoorTreePlain
namespace Tre
open Pth

theorem pre_ne {P : List Bs} (h : Cl P) {i : Nat} (h1 : 1 ≤ i) (h2 : i ≤ P.length) : pre P i ≠ [] :=
  join_ne (cl_take h i).ok (List.ne_nil_of_length_pos (by rw [List.length_take]; omega))
/-! Taking away. -/
theorem look_filter (E : List (Bs × Nat)) (s x : Bs) (h : x ≠ s) : look (E.filter fun p => !(p.1 == s)) x = look E x := by
  induction E with
  | nil => rfl
  | cons p E ih =>
    by_cases e : p.1 = s
    · have e2 : p.1 ≠ x := fun e' => h (by rw [← e', e])
      rw [List.filter_cons_of_neg (by simp [e]), ih]
      unfold look
      rw [List.find?_cons_of_neg (by simpa using e2)]
    · rw [List.filter_cons_of_pos (by simp [e])]
      unfold look at ih ⊢
      by_cases e2 : p.1 = x
      · rw [List.find?_cons_of_pos (by simpa using e2), List.find?_cons_of_pos (by simpa using e2)]
      · rw [List.find?_cons_of_neg (by simpa using e2), List.find?_cons_of_neg (by simpa using e2)]
        exact ih
theorem look_filter_self (E : List (Bs × Nat)) (s : Bs) : look (E.filter fun p => !(p.1 == s)) s = none := by
  rw [look_none]
  intro p hp
  have := (List.mem_filter.1 hp).2
  simpa using this
theorem alike_of {t : T} {a b : Bs} {i k : Nat} (ha : look t.ents a = some i) (hb : look t.ents b = some k) : t.alike a b = (i == k) := by
  unfold T.alike; rw [ha, hb]
theorem links_of {t : T} (ht : Apart t.ents) {a : Bs} {i : Nat} (ha : look t.ents a = some i) : t.links a = (t.ents.filter fun p => p.2 == i).length := by
  unfold T.links
  congr 1
  refine List.filter_congr fun p hp => ?_
  rw [alike_of ha (look_of ht hp)]
  by_cases e : i = p.2
  · subst e; rfl
  · have e1 : (i == p.2) = false := beq_eq_false_iff_ne.2 e
    have e2 : (p.2 == i) = false := beq_eq_false_iff_ne.2 fun e' => e e'.symm
    rw [e1, e2]
/-- Two names of a file count. -/
theorem two_links {t : T} (ht : Apart t.ents) {a b : Bs} {i : Nat} (ha : (a, i) ∈ t.ents) (hb : (b, i) ∈ t.ents) (hne : a ≠ b) : t.links a ≠ 1 := by
  rw [links_of ht (look_of ht ha)]
  intro h
  have h1 : (a, i) ∈ t.ents.filter fun p => p.2 == i := List.mem_filter.2 ⟨ha, by simp⟩
  have h2 : (b, i) ∈ t.ents.filter fun p => p.2 == i := List.mem_filter.2 ⟨hb, by simp⟩
  obtain ⟨y, hl⟩ := List.length_eq_one_iff.1 h
  rw [hl] at h1 h2
  have := (List.mem_singleton.1 h1).trans (List.mem_singleton.1 h2).symm
  exact hne (by injection this)
theorem links_pos {t : T} (ht : Apart t.ents) {a : Bs} {i : Nat} (ha : (a, i) ∈ t.ents) : 1 ≤ t.links a := by
  rw [links_of ht (look_of ht ha)]
  exact List.length_pos_of_mem (a := (a, i)) (List.mem_filter.2 ⟨ha, by simp⟩)
theorem remove_file {t : T} (ht : Apart t.ents) {a : Bs} {i : Nat} (ha : look t.ents a = some i) {q : Bs × Nat} (hq : q ∈ t.ents) (hne : q.1 ≠ a) :
    (if t.links a = 1 then upd t.fl i none else t.fl) q.2 = t.fl q.2 := by
  split
  · unfold upd
    split
    · rename_i h1 h2
      refine absurd h1 (two_links ht (look_mem ha) (b := q.1) ?_ hne.symm)
      rw [← h2]; exact hq
    · rfl
  · rfl
theorem Std.remove {t : T} (ht : Std t) (x : Deed) {i : Nat} (hi : look t.ents x.name = some i) : Std (remove t x i).1 := by
  unfold Tre.remove
  split
  · exact ht
  · rename_i h1
    have ha : t.has x.name = true := has_iff.2 ⟨i, look_mem hi⟩
    have hal := (alone ht ha).1 (by omega)
    refine ⟨ht.nd.filter _, fun p hp => ?_, fun p hp j h1 h2 => ?_, fun k n hk => ?_, Nat.le_trans (List.length_filter_le _ _) ht.cn⟩
    · obtain ⟨hp1, hp2⟩ := List.mem_filter.1 hp
      obtain ⟨a, b, n, c, d⟩ := ht.ok p hp1
      exact ⟨a, b, n, (remove_file ht.nd hi hp1 (by simpa using hp2)).trans c, d⟩
    · obtain ⟨hp1, hp2⟩ := List.mem_filter.1 hp
      have hr := (ht.ok p hp1).1
      obtain ⟨k, hk, hd⟩ := isDir_iff.1 (ht.up p hp1 j h1 h2)
      have hne : pre (parts p.1) j ≠ x.name := fun e => by
        have := hal p hp1 (by
          have h3 := inn_pre (right_cl hr).1 h1 (Nat.le_of_lt h2)
          rw [right_join hr, e] at h3
          exact h3)
        simp [this] at hp2
      refine isDir_iff.2 ⟨k, ?_, ?_⟩
      · rw [← hk]; exact look_filter _ _ _ hne
      · unfold T.file at hd ⊢
        simp only
        rw [show (if t.links x.name = 1 then upd t.fl i none else t.fl) k = t.fl k from remove_file ht.nd hi (look_mem hk) hne]
        exact hd
    · simp only at hk
      split at hk
      · unfold upd at hk
        split at hk
        · cases hk
        · exact ht.fr k n hk
      · exact ht.fr k n hk

/-! Changing. -/
theorem changed_kind (n : Nd) (x : Deed) : (changed n x).kind = n.kind := by
  unfold changed
  split
  · rfl
  · split
    · rfl
    · split
      · rfl
      · split <;> rfl
theorem Std.upd {t : T} (ht : Std t) {i : Nat} (hi : i ≤ t.nx) {m : Nd} (hm : rightN m = true) (hk : m.kind = (t.file i).kind) : Std ⟨t.ents, upd t.fl i (some m), t.nx⟩ := by
  have hdir : ∀ s, t.isDir s = true → T.isDir ⟨t.ents, Tre.upd t.fl i (some m), t.nx⟩ s = true := fun s h => by
    obtain ⟨k, hk1, hk2⟩ := isDir_iff.1 h
    refine isDir_iff.2 ⟨k, hk1, ?_⟩
    unfold T.file Tre.upd
    simp only
    by_cases e : k = i
    · subst e; rw [if_pos rfl]; simpa [hk] using hk2
    · rw [if_neg e]; exact hk2
  refine ⟨ht.nd, fun p hp => ?_, fun p hp j h1 h2 => hdir _ (ht.up p hp j h1 h2), fun k n h => ?_, ht.cn⟩
  · obtain ⟨a, b, n, c, d⟩ := ht.ok p hp
    by_cases e : p.2 = i
    · exact ⟨a, b, m, by simp only [Tre.upd]; rw [if_pos e], hm⟩
    · exact ⟨a, b, n, by simp only [Tre.upd]; rw [if_neg e]; exact c, d⟩
  · simp only [Tre.upd] at h
    split at h
    · rename_i e; rw [e]; exact hi
    · exact ht.fr k n h
theorem Std.change {t : T} (ht : Std t) (x : Deed) {i : Nat} (hi : look t.ents x.name = some i) : Std (change t x i).1 := by
  unfold Tre.change
  split
  · exact ht
  · split
    · exact ht
    · split
      · exact ht
      · rename_i h
        exact ht.upd (ht.ok _ (look_mem hi)).2.1 (by simpa using h) (changed_kind _ _)

/-! Moving. -/
theorem ren_in {a to : Bs} {p : Bs × Nat} (h : inn p.1 a = true) : ren a to p = (mv a to p.1, p.2) := if_pos h
theorem ren_out {a to : Bs} {p : Bs × Nat} (h : inn p.1 a = false) : ren a to p = p := if_neg (by simp [h])
theorem ren_snd (a to : Bs) (p : Bs × Nat) : (ren a to p).2 = p.2 := by unfold ren; split <;> rfl
theorem mv_inn (a to x : Bs) (h : inn x a = true) (ha : a ≠ []) : inn (mv a to x) to = true := by
  rw [inn_iff] at *
  rcases h with h | rfl | ⟨r, rfl⟩
  · exact absurd h ha
  · right; left; simp [mv]
  · right; right; exact ⟨r, by simp [mv]⟩
theorem mv_back (a to x : Bs) (h : inn x a = true) (ha : a ≠ []) : mv to a (mv a to x) = x := by
  rw [inn_iff] at h
  rcases h with h | rfl | ⟨r, rfl⟩
  · exact absurd h ha
  · simp [mv]
  · simp [mv]
theorem mv_self (a to : Bs) : mv a to a = to := by simp [mv]
structure Moves (t : T) (a to : Bs) : Prop where
  st : Std t
  ra : right a = true
  cy : inn to a = false
  rm : room t to = 0
  nw : ∀ p ∈ t.ents, inn p.1 a = true → right (mv a to p.1) = true
theorem Moves.fresh {t : T} {a to : Bs} (h : Moves t a to) : ∀ p ∈ t.ents, inn p.1 to = false := room_fresh h.st h.rm
theorem Moves.apart {t : T} {a to : Bs} (h : Moves t a to) : Apart (t.ents.map (ren a to)) := by
  unfold Apart
  rw [List.pairwise_map]
  have ha := right_ne h.ra
  refine h.st.nd.imp_of_mem fun {p q} hp hq hne e => ?_
  cases hp1 : inn p.1 a <;> cases hq1 : inn q.1 a
  · rw [ren_out hp1, ren_out hq1] at e; exact hne e
  · rw [ren_out hp1, ren_in hq1] at e
    have := mv_inn a to q.1 hq1 ha
    simp only at e
    rw [← e, h.fresh p hp] at this; cases this
  · rw [ren_in hp1, ren_out hq1] at e
    have := mv_inn a to p.1 hp1 ha
    simp only at e
    rw [e, h.fresh q hq] at this; cases this
  · rw [ren_in hp1, ren_in hq1] at e
    have e1 := mv_back a to p.1 hp1 ha
    have e2 := mv_back a to q.1 hq1 ha
    simp only at e
    rw [e, e2] at e1
    exact hne e1.symm
def moved (t : T) (a to : Bs) : T := ⟨t.ents.map (ren a to), t.fl, t.nx⟩
theorem Moves.look_out {t : T} {a to : Bs} (h : Moves t a to) {s : Bs} {k : Nat} (hs : inn s a = false) (hl : look t.ents s = some k) : look (moved t a to).ents s = some k := by
  have hm := look_mem hl
  have : (s, k) ∈ (moved t a to).ents := List.mem_map.2 ⟨(s, k), hm, ren_out hs⟩
  exact look_of h.apart this
theorem Moves.look_in {t : T} {a to : Bs} (h : Moves t a to) {s : Bs} {k : Nat} (hs : inn s a = true) (hl : look t.ents s = some k) : look (moved t a to).ents (mv a to s) = some k := by
  have hm := look_mem hl
  have : (mv a to s, k) ∈ (moved t a to).ents := List.mem_map.2 ⟨(s, k), hm, ren_in hs⟩
  exact look_of h.apart this
theorem Moves.dir_out {t : T} {a to : Bs} (h : Moves t a to) {s : Bs} (hs : inn s a = false) (hl : t.isDir s = true) : (moved t a to).isDir s = true := by
  obtain ⟨k, h1, h2⟩ := isDir_iff.1 hl
  exact isDir_iff.2 ⟨k, h.look_out hs h1, h2⟩
theorem Moves.dir_in {t : T} {a to : Bs} (h : Moves t a to) {s : Bs} (hs : inn s a = true) (hl : t.isDir s = true) : (moved t a to).isDir (mv a to s) = true := by
  obtain ⟨k, h1, h2⟩ := isDir_iff.1 hl
  exact isDir_iff.2 ⟨k, h.look_in hs h1, h2⟩
theorem Moves.std {t : T} {a to : Bs} (h : Moves t a to) : Std (moved t a to) := by
  have rt := (room_zero h.rm).1
  obtain ⟨cA, nA⟩ := right_cl h.ra
  obtain ⟨cB, nB⟩ := right_cl rt
  have jA := right_join h.ra
  have jB := right_join rt
  have ha := right_ne h.ra
  refine ⟨h.apart, fun p hp => ?_, fun p hp i h1 h2 => ?_, h.st.fr, by simpa [moved] using h.st.cn⟩
  · obtain ⟨q, hq, rfl⟩ := List.mem_map.1 hp
    obtain ⟨b, c⟩ := h.st.ok q hq
    rw [ren_snd]
    refine ⟨?_, c⟩
    cases hi : inn q.1 a
    · rw [ren_out hi]; exact b
    · rw [ren_in hi]; exact h.nw q hq hi
  · obtain ⟨q, hq, rfl⟩ := List.mem_map.1 hp
    have rq := (h.st.ok q hq).1
    cases hi : inn q.1 a
    · rw [ren_out hi] at h2 ⊢
      refine h.dir_out ?_ (h.st.up q hq i h1 h2)
      cases hx : inn (pre (parts q.1) i) a with
      | false => rfl
      | true =>
        have h3 := inn_pre (right_cl rq).1 h1 (Nat.le_of_lt h2)
        rw [right_join rq] at h3
        rw [inn_trans h3 hx] at hi; cases hi
    · rw [ren_in hi] at h2 ⊢
      simp only at h2 ⊢
      obtain ⟨R, hR⟩ := inn_split rq h.ra hi
      have cQ := (right_cl rq).1
      have e1 : q.1 = join (parts a ++ R) := by rw [← hR, right_join rq]
      have cR : Cl R := fun p hp => cQ p (by rw [hR]; exact List.mem_append.2 (.inr hp))
      have e2 : mv a to q.1 = join (parts to ++ R) := by
        have := mv_join (A := parts a) (R := R) (B := parts to) nA nB
        rw [jA, jB, ← e1] at this; exact this
      have e3 : parts (mv a to q.1) = parts to ++ R := by rw [e2, parts_join (cl_app cB cR).ok]
      rw [e3] at h2 ⊢
      by_cases hl : i < (parts to).length
      · have e4 : pre (parts to ++ R) i = pre (parts to) i := by rw [pre, pre, List.take_append_of_le_length (by omega)]
        rw [e4]
        refine h.dir_out ?_ (room_dirs h.st h.rm h1 hl)
        cases hx : inn (pre (parts to) i) a with
        | false => rfl
        | true =>
          have h3 := inn_pre cB h1 (Nat.le_of_lt hl)
          rw [jB] at h3
          have := inn_trans h3 hx
          rw [h.cy] at this; cases this
      · obtain ⟨j, rfl⟩ : ∃ j, i = (parts to).length + j := ⟨i - (parts to).length, by omega⟩
        rw [List.length_append] at h2
        have e4 : pre (parts to ++ R) ((parts to).length + j) = mv a to (pre (parts q.1) ((parts a).length + j)) := by
          rw [pre, pre, hR, List.take_length_add_append, List.take_length_add_append]
          have := mv_join (A := parts a) (R := R.take j) (B := parts to) nA nB
          rw [jA, jB] at this; exact this.symm
        rw [e4]
        have hl1 : 1 ≤ (parts a).length + j := by have := List.length_pos_iff.2 nA; omega
        have hl2 : (parts a).length + j < (parts q.1).length := by rw [hR, List.length_append]; omega
        refine h.dir_in ?_ (h.st.up q hq _ hl1 hl2)
        have : inn (join (parts a ++ R.take j)) (join (parts a)) = true := by
          rw [inn_parts (cl_app cA (cl_take cR j)) cA nA (by simp [nA])]
          exact ⟨_, rfl⟩
        rw [jA] at this
        rw [pre, hR, List.take_length_add_append]; exact this

theorem moves_of {t : T} (ht : Std t) (x : Deed) (ha : t.has x.name = true) (h1 : inn x.to x.name = false) (h2 : room t x.to = 0) (h3 : (t.inside x.name).any (fun s => !right (mv x.name x.to s)) = false) : Moves t x.name x.to := by
  obtain ⟨k, hk⟩ := has_iff.1 ha
  refine ⟨ht, (ht.ok _ hk).1, h1, h2, fun p hp hi => ?_⟩
  rw [List.any_eq_false] at h3
  have := h3 p.1 (inside_mem.2 ⟨has_iff.2 ⟨p.2, hp⟩, hi⟩)
  simpa using this
theorem Std.move {t : T} (ht : Std t) (x : Deed) (ha : t.has x.name = true) : Std (move t x).1 := by
  unfold Tre.move
  split
  · exact ht
  · split
    · exact ht
    · split
      · exact ht
      · rename_i h1 h2 h3
        exact (moves_of ht x ha (by simpa using h1) (by simpa using h2) (by simpa using h3)).std

theorem Std.act {t : T} (ht : Std t) (x : Deed) : Std (act t x).1 := by
  unfold Tre.act
  split
  · exact ht.create x
  · split
    · exact ht
    · split
      · exact ht
      · rename_i i hi
        split
        · exact ht.again x hi
        · split
          · exact ht.remove x hi
          · split
            · exact ht.move x (has_iff.2 ⟨i, look_mem hi⟩)
            · exact ht.change x hi
theorem Std.plant (l : List Deed) : ∀ {t : T}, Std t → Std (l.foldl (fun t x => (Tre.act t x).1) t) := by
  induction l with
  | nil => exact fun h => h
  | cons x l ih => exact fun h => ih (h.act x)
/-- What tells an error changes nothing. -/
theorem act_err {t : T} {x : Deed} (h : (act t x).2 ≠ 0) : (act t x).1 = t := by
  revert h
  unfold act create again remove move change
  split
  · split
    · intro _; rfl
    · split
      · intro _; rfl
      · intro h; exact absurd rfl h
  · split
    · intro _; rfl
    · split
      · intro _; rfl
      · repeat' split
        all_goals first | (intro _; rfl) | (intro h; exact absurd rfl h)
/-! The number of files. -/
theorem act_nx (t : T) (x : Deed) : (act t x).1.nx ≤ t.nx + 1 ∧ t.nx ≤ (act t x).1.nx := by
  unfold act create again remove move change
  repeat' split
  all_goals simp

/-! The same. -/
theorem same_self {t : T} (ht : Apart t.ents) : Same t t :=
  ⟨rfl, fun p hp => ⟨p.2, look_of ht hp, rfl⟩, fun p hp q hq k l h1 h2 => by
    rw [look_of ht hp] at h1; rw [look_of ht hq] at h2
    cases h1; cases h2; rfl⟩

/-- Moved there, another tree; moved back, this one. -/
theorem there_back {t : T} (ht : Std t) {a to : Bs} (ha : t.has a = true) {x y : Deed} (hx : x.what = 4 ∧ x.name = a ∧ x.to = to) (hy : y.what = 4 ∧ y.name = to ∧ y.to = a) (h : (act t x).2 = 0) :
    ¬ Same t (act t x).1 ∧ act (act t x).1 y = (t, 0) := by
  obtain ⟨rfl, rfl⟩ := hx.2
  obtain ⟨i, hi⟩ := has_iff.1 ha
  have hl := look_of ht.nd hi
  simp only at hl
  have e : act t x = move t x := by
    unfold act
    rw [if_neg (by omega), if_neg (by omega), hl]
    simp only
    rw [if_neg (by omega), if_neg (by omega), if_pos hx.1]
  rw [e] at h ⊢
  unfold move at h ⊢
  split at h
  · cases h
  · rename_i h1
    rw [if_neg h1]
    split at h
    · contradiction
    · rename_i h2
      rw [if_neg h2]
      split at h
      · cases h
      · rename_i h3
        rw [if_neg h3]
        have M := moves_of ht x ha (by simpa using h1) (by simpa using h2) (by simpa using h3)
        have hane := right_ne M.ra
        have rt := (room_zero M.rm).1
        have hself : inn x.name x.to = false := M.fresh _ hi
        have hnone : look (moved t x.name x.to).ents x.name = none := by
          rw [look_none]
          intro p hp
          obtain ⟨q, hq, rfl⟩ := List.mem_map.1 hp
          cases hi2 : inn q.1 x.name
          · rw [ren_out hi2]
            intro e; rw [e, inn_self] at hi2; cases hi2
          · rw [ren_in hi2]
            intro e
            have := mv_inn x.name x.to q.1 hi2 hane
            simp only at e
            rw [e, hself] at this; cases this
        constructor
        · intro hs
          obtain ⟨k, hk, _⟩ := hs.2.1 _ hi
          simp only at hk
          have := hnone
          unfold moved at this
          rw [this] at hk; cases hk
        · have hti : look (moved t x.name x.to).ents x.to = some i := by
            have := M.look_in (inn_self x.name) hl
            rwa [mv_self] at this
          have e : act (moved t x.name x.to) y = move (moved t x.name x.to) y := by
            unfold act
            rw [if_neg (by omega), if_neg (by omega), hy.2.1, hti]
            simp only
            rw [if_neg (by omega), if_neg (by omega), if_pos hy.1]
          show act (moved t x.name x.to) y = _
          rw [e]
          unfold move
          rw [hy.2.1, hy.2.2, if_neg (by simp [hself])]
          have hdirs : ∀ j, 1 ≤ j → j < (parts x.name).length → (moved t x.name x.to).isDir (pre (parts x.name) j) = true := fun j j1 j2 => by
            refine M.dir_out ?_ (ht.up _ hi j j1 j2)
            cases hx2 : inn (pre (parts x.name) j) x.name with
            | false => rfl
            | true =>
              have h4 := inn_pre (right_cl M.ra).1 j1 (Nat.le_of_lt j2)
              rw [right_join M.ra] at h4
              have h5 := inn_anti (pre_ne (right_cl M.ra).1 j1 (Nat.le_of_lt j2)) hane hx2 h4
              have h6 := congrArg (fun s => (parts s).length) h5
              rw [parts_pre (right_cl M.ra).1, List.length_take] at h6
              omega
          have hroom : room (moved t x.name x.to) x.name = 0 := by
            unfold room
            rw [if_neg (by simp [M.ra]), if_neg (by unfold T.has; rw [hnone]; simp), if_neg, if_neg]
            · rintro ⟨h4, h5⟩
              have := isDir_has (hdirs ((parts x.name).length - 1) (by omega) (by omega))
              rw [h5] at this; cases this
            · unfold blocked
              rw [List.any_eq_true]
              rintro ⟨j, hj, h4⟩
              simp only [Bool.and_eq_true, decide_eq_true_eq, Bool.not_eq_true'] at h4
              have := hdirs j h4.1 (List.mem_range.1 hj)
              rw [h4.2.2] at this; cases this
          rw [if_neg (by rw [hroom]; simp)]
          rw [if_neg]
          · refine Prod.ext ?_ rfl
            simp only
            have : (moved t x.name x.to).ents.map (ren x.to x.name) = t.ents := by
              show (t.ents.map (ren x.name x.to)).map (ren x.to x.name) = t.ents
              rw [List.map_map]
              conv => rhs; rw [← List.map_id t.ents]
              refine List.map_congr_left fun p hp => ?_
              show ren x.to x.name (ren x.name x.to p) = p
              cases hi2 : inn p.1 x.name
              · rw [ren_out hi2, ren_out (M.fresh p hp)]
              · rw [ren_in hi2, ren_in (mv_inn _ _ _ hi2 hane)]
                simp only
                rw [mv_back _ _ _ hi2 hane]
            rw [this]; rfl
          · intro h4
            obtain ⟨s, hs, h5⟩ := List.any_eq_true.1 h4
            obtain ⟨h6, h7⟩ := inside_mem.1 hs
            obtain ⟨k, hk⟩ := has_iff.1 h6
            obtain ⟨q, hq, e⟩ := List.mem_map.1 hk
            cases hi2 : inn q.1 x.name
            · rw [ren_out hi2] at e
              have := M.fresh q hq
              rw [e] at this
              simp only at this
              rw [this] at h7; cases h7
            · rw [ren_in hi2] at e
              have e2 : s = mv x.name x.to q.1 := by injection e with e _; exact e.symm
              rw [e2, mv_back _ _ _ hi2 hane, (ht.ok q hq).1] at h5
              cases h5
/-- Called again, and that name taken away. -/
theorem again_gone {t : T} (ht : Std t) {a to : Bs} (ha : t.has a = true) {x y : Deed} (hx : x.what = 2 ∧ x.name = a ∧ x.to = to) (hy : y.what = 3 ∧ y.name = to) (h : (act t x).2 = 0) :
    (act t x).1.alike a to = true ∧ act (act t x).1 y = (t, 0) := by
  obtain ⟨rfl, rfl⟩ := hx.2
  obtain ⟨i, hi⟩ := has_iff.1 ha
  have hl := look_of ht.nd hi
  simp only at hl
  have e : act t x = again t x i := by
    unfold act
    rw [if_neg (by omega), if_neg (by omega), hl]
    simp only
    rw [if_pos hx.1]
  have hS : Std (act t x).1 := ht.act x
  rw [e] at h hS ⊢
  unfold again at h hS ⊢
  split at h
  · cases h
  · rename_i h1
    rw [if_neg h1] at hS ⊢
    split at h
    · contradiction
    · rename_i h2
      rw [if_neg h2] at hS ⊢
      have hs : space t x.to = 0 := by simpa using h2
      have hfresh := room_fresh ht (space_zero hs).1
      have hnone : look t.ents x.to = none := by
        have := (room_zero (space_zero hs).1).2.1
        unfold T.has at this; simpa using this
      have hne : x.name ≠ x.to := fun e => by rw [e, hnone] at hl; cases hl
      have k1 : look (t.ents ++ [(x.to, i)]) x.name = some i := by rw [look_snoc, hl]; rfl
      have k2 : look (t.ents ++ [(x.to, i)]) x.to = some i := by rw [look_snoc, hnone]; simp
      refine ⟨by rw [alike_of k1 k2]; simp, ?_⟩
      unfold act
      rw [if_neg (by omega), if_neg (by omega), hy.2]
      simp only
      rw [k2]
      simp only
      rw [if_neg (by omega), if_pos hy.1]
      unfold remove
      rw [hy.2]
      have hal : (T.inside ⟨t.ents ++ [(x.to, i)], t.fl, t.nx⟩ x.to).length ≤ 1 := by
        rw [alone hS (by unfold T.has; simp only; rw [k2]; rfl)]
        intro p hp hin
        rcases List.mem_append.1 hp with hp | hp
        · rw [hfresh p hp] at hin; cases hin
        · obtain rfl : p = (x.to, i) := by simpa using hp
          rfl
      rw [if_neg (by omega)]
      have hlk : T.links ⟨t.ents ++ [(x.to, i)], t.fl, t.nx⟩ x.to ≠ 1 :=
        two_links (b := x.name) (i := i) hS.nd (by simp) (List.mem_append.2 (.inl hi)) hne.symm
      rw [if_neg hlk]
      refine Prod.ext ?_ rfl
      simp only
      have : (t.ents ++ [(x.to, i)]).filter (fun p => !(p.1 == x.to)) = t.ents := by
        rw [List.filter_append, List.filter_eq_self.2 (fun p hp => by have := look_none.1 hnone p hp; simp [this])]
        simp
      rw [this]

/-! Data and who owns it. -/
theorem act_change {t : T} {a : Bs} {i : Nat} (hl : look t.ents a = some i) {x : Deed} (hx : 5 ≤ x.what ∧ x.what ≤ 8) (hn : x.name = a) : act t x = change t x i := by
  unfold act
  rw [if_neg (by omega), if_neg (by omega), hn, hl]
  simp only
  rw [if_neg (by omega), if_neg (by omega), if_neg (by omega)]
/-- What is told of a file is told under all its names, and no others. -/
theorem change_get {t : T} {a : Bs} {i : Nat} (hl : look t.ents a = some i) {x : Deed} (h : (change t x i).2 = 0) (b : Bs) :
    (change t x i).1.get b = (if t.alike a b = true then some (changed (t.file i) x) else t.get b) ∧ (change t x i).1.ents = t.ents := by
  unfold change at h ⊢
  split at h
  · cases h
  · rename_i h1
    rw [if_neg h1]
    split at h
    · cases h
    · rename_i h2
      rw [if_neg h2]
      split at h
      · cases h
      · rename_i h3
        rw [if_neg h3]
        refine ⟨?_, rfl⟩
        unfold T.get
        simp only
        cases hb : look t.ents b with
        | none => simp [T.alike, hl, hb]
        | some k =>
          rw [alike_of hl hb]
          simp only [Option.map_some, T.file, upd]
          by_cases e : k = i
          · subst e; simp
          · have : ¬ i = k := fun e' => e e'.symm
            simp [e, this]
theorem alike_ents {t u : T} (h : t.ents = u.ents) (a b : Bs) : t.alike a b = u.alike a b := by unfold T.alike; rw [h]

end Tre
