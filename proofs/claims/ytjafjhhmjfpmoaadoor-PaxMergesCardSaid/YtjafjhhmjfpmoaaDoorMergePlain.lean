/-
  Merged records: what counts of a key, sorted; plain facts.
-/
import Derived.Test.YtjafjhhmjfpmoaaDoorPaxPlain

namespace Px
abbrev Bs := List UInt8

/-- The last value of a key. -/
def lastV : List Rec → Bs → Option Bs
  | [], _ => none
  | p :: r, x => (lastV r x).or (if p.1 = x then some p.2 else none)
theorem lastV_app (a b : List Rec) (x : Bs) : lastV (a ++ b) x = (lastV b x).or (lastV a x) := by
  induction a with
  | nil => simp [lastV]
  | cons p a ih => simp only [List.cons_append, lastV, ih, Option.or_assoc]
theorem lastV_snoc (a : List Rec) (p : Rec) (x : Bs) : lastV (a ++ [p]) x = if p.1 = x then some p.2 else lastV a x := by
  rw [lastV_app]
  by_cases h : p.1 = x <;> simp [lastV, h]
theorem lastV_mem {l : List Rec} {x v : Bs} (h : lastV l x = some v) : (x, v) ∈ l := by
  induction l with
  | nil => cases h
  | cons p l ih =>
    unfold lastV at h
    cases hl : lastV l x with
    | some u => rw [hl] at h; cases h; exact List.mem_cons_of_mem _ (ih hl)
    | none =>
      rw [hl] at h
      by_cases hp : p.1 = x
      · simp [hp] at h; subst h; subst hp; exact List.mem_cons_self ..
      · simp [hp] at h
theorem lastV_none {l : List Rec} {x : Bs} : lastV l x = none ↔ ∀ p ∈ l, p.1 ≠ x := by
  induction l with
  | nil => simp [lastV]
  | cons p l ih =>
    simp only [lastV, Option.or_eq_none_iff, ih, List.mem_cons, forall_eq_or_imp]
    by_cases h : p.1 = x <;> simp [h]
/-- of a list in which no key stands twice. -/
theorem lastV_apart {l : List Rec} (h : l.Pairwise fun p q => p.1 ≠ q.1) (x v : Bs) : lastV l x = some v ↔ (x, v) ∈ l := by
  refine ⟨lastV_mem, fun hm => ?_⟩
  induction l with
  | nil => cases hm
  | cons p l ih =>
    rw [List.pairwise_cons] at h
    rcases List.mem_cons.1 hm with rfl | hm
    · have : lastV l x = none := lastV_none.2 fun q hq e => h.1 q hq e.symm
      simp [lastV, this]
    · simp [lastV, ih h.2 hm]

/-- M is what is merged of l. -/
def IsMerge (l M : List Rec) : Prop := (M.Pairwise fun p q => p.1 < q.1) ∧ ∀ k v, (k, v) ∈ M ↔ lastV l k = some v ∧ v ≠ []
theorem lt_ne {a b : Bs} (h : a < b) : a ≠ b := fun e => by subst e; exact List.lt_irrefl a h
theorem IsMerge.apart {l M : List Rec} (h : IsMerge l M) : M.Pairwise fun p q => p.1 ≠ q.1 := h.1.imp lt_ne
theorem apart_nodup {M : List Rec} (h : M.Pairwise fun p q => p.1 ≠ q.1) : M.Nodup := h.imp fun h e => h (by rw [e])
theorem merge_unique {l l' M M' : List Rec} (h : IsMerge l M) (h' : IsMerge l' M') (he : ∀ x, lastV l x = lastV l' x) : M = M' := by
  have hp : M.Perm M' := (List.perm_ext_iff_of_nodup (apart_nodup h.apart) (apart_nodup h'.apart)).2 fun p => by
    obtain ⟨k, v⟩ := p
    rw [h.2, h'.2, he]
  exact hp.eq_of_pairwise (le := fun p q => p.1 < q.1) (fun a b _ _ h1 h2 => absurd h2 (fun h2 => List.lt_irrefl _ (List.lt_trans h1 h2))) h.1 h'.1
theorem IsMerge.last {l M : List Rec} (h : IsMerge l M) (x : Bs) : lastV M x = (lastV l x).bind fun v => if v = [] then none else some v := by
  cases hl : lastV l x with
  | none =>
    simp only [Option.bind_none]
    cases hm : lastV M x with
    | none => rfl
    | some v =>
      have := (h.2 x v).1 (lastV_mem hm)
      rw [hl] at this; cases this.1
  | some v =>
    simp only [Option.bind_some]
    by_cases hv : v = []
    · rw [if_pos hv]
      cases hm : lastV M x with
      | none => rfl
      | some u =>
        obtain ⟨h1, h2⟩ := (h.2 x u).1 (lastV_mem hm)
        rw [hl] at h1; cases h1; exact absurd hv h2
    · rw [if_neg hv]
      exact (lastV_apart h.apart x v).2 ((h.2 x v).2 ⟨hl, hv⟩)
theorem IsMerge.self {l M : List Rec} (h : IsMerge l M) : IsMerge M M :=
  ⟨h.1, fun k v => by
    constructor
    · intro hm
      exact ⟨(lastV_apart h.apart k v).2 hm, ((h.2 k v).1 hm).2⟩
    · rintro ⟨h1, _⟩
      exact lastV_mem h1⟩
theorem IsMerge.val {l M : List Rec} (h : IsMerge l M) {p : Rec} (hp : p ∈ M) : p.2 ≠ [] := ((h.2 p.1 p.2).1 hp).2

/-- What Get says. -/
def getV (l : List Rec) (x : Bs) : Bs × Bool := match lastV l x with | some v => (v, v != []) | none => ([], false)
theorem IsMerge.get {l M : List Rec} (h : IsMerge l M) (x : Bs) : getV M x = getV l x := by
  unfold getV
  rw [h.last]
  cases hl : lastV l x with
  | none => rfl
  | some v =>
    by_cases hv : v = []
    · subst hv; rfl
    · simp [hv]
theorem IsMerge.mem_get {l M : List Rec} (h : IsMerge l M) (x : Bs) : (getV l x).2 = true ↔ (x, (getV l x).1) ∈ M := by
  rw [h.2]
  unfold getV
  cases hl : lastV l x with
  | none => simp
  | some v => simp

/-- What the map's entries come to. -/
theorem merge_of {l ps M : List Rec} (hps : ps.Pairwise fun p q => p.1 ≠ q.1) (hm : ∀ k v, (k, v) ∈ ps ↔ lastV l k = some v) (hp : M.Perm (ps.filter fun p => p.2 != [])) (hs : M.Pairwise fun p q => ¬ q.1 < p.1) : IsMerge l M := by
  have hap : M.Pairwise fun p q => p.1 ≠ q.1 := (hp.pairwise_iff (fun h e => h e.symm)).2 (hps.filter _)
  refine ⟨(hs.and hap).imp fun h => Decidable.byContradiction fun h' => h.2 (List.le_antisymm h.1 h'), fun k v => ?_⟩
  rw [hp.mem_iff, List.mem_filter, hm]
  simp
end Px

