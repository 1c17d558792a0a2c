/-
  Headers: fields put over 512 bytes, each read again: no program in sight.
-/
import Derived.Test.YtkhkjacnoiopcaaGreatDoorZac
set_option linter.unusedVariables false
set_option linter.unusedSimpArgs false

set_option linter.unusedVariables false
set_option linter.unusedSimpArgs false
namespace Go.Proofs.YtkhkjacnoiopcaaGreatDoor
open Go

/-- n bytes of b from a on -/
def fld (b : List UInt8) (a n : Nat) : List UInt8 := (b.drop a).take n
theorem fld_get (b : List UInt8) (a n i : Nat) : (fld b a n)[i]? = if i < n then b[a + i]? else none := by
  unfold fld
  rw [List.getElem?_take]
  split
  · rw [List.getElem?_drop]
  · rfl
theorem fld_len (b : List UInt8) (a n : Nat) (h : a + n ≤ b.length) : (fld b a n).length = n := by unfold fld; simp; omega
theorem fld_far (b : List UInt8) (a : Nat) (d : List UInt8) (h : a + d.length ≤ b.length) (a' n : Nat) (hd : a' + n ≤ a ∨ a + d.length ≤ a') : fld (over b a d) a' n = fld b a' n := by
  apply List.ext_getElem?
  intro i
  rw [fld_get, fld_get]
  split
  · rw [over_get b a d h, if_neg (by omega)]
  · rfl
theorem fld_at (b : List UInt8) (a n : Nat) (d : List UInt8) (h : a + n ≤ b.length) (hd : d.length ≤ n) : fld (over b a d) a n = d ++ (fld b a n).drop d.length := by
  apply List.ext_getElem?
  intro i
  have hl := fld_len b a n h
  rw [fld_get]
  by_cases h1 : i < d.length
  · rw [if_pos (by omega), over_get b a d (by omega), if_pos (by omega), List.getElem?_append_left h1, Nat.add_sub_cancel_left]
  · rw [List.getElem?_append_right (by omega), List.getElem?_drop, fld_get]
    by_cases h2 : i < n
    · rw [if_pos h2, if_pos (by omega), over_get b a d (by omega), if_neg (by omega)]
      congr 1; omega
    · rw [if_neg h2, if_neg (by omega)]
/-- A field: where it stands, how long it is, what stands in it. -/
structure Fd where
  at_ : Nat
  long : Nat
  txt : List UInt8
def Fd.ok (f : Fd) : Prop := f.txt.length ≤ f.long ∧ f.at_ + f.long ≤ 512
def Fd.apart (f g : Fd) : Prop := f.at_ + f.long ≤ g.at_ ∨ g.at_ + g.long ≤ f.at_
/-- fields laid over b, one behind the other -/
def lay (b : List UInt8) (fs : List Fd) : List UInt8 := fs.foldl (fun b f => over b f.at_ f.txt) b
theorem lay_cons (b : List UInt8) (f : Fd) (fs : List Fd) : lay b (f :: fs) = lay (over b f.at_ f.txt) fs := rfl
theorem lay_append (b : List UInt8) (fs gs : List Fd) : lay b (fs ++ gs) = lay (lay b fs) gs := List.foldl_append
theorem lay_len (fs : List Fd) : ∀ b : List UInt8, b.length = 512 → (∀ f ∈ fs, f.ok) → (lay b fs).length = 512 := by
  induction fs with
  | nil => intro b h _; exact h
  | cons f fs ih =>
    intro b h hf
    have h1 := hf f (List.mem_cons_self ..)
    exact ih _ (by rw [over_len _ _ _ (by have := h1.1; have := h1.2; omega), h]) (fun g hg => hf g (List.mem_cons_of_mem _ hg))
theorem lay_far (fs : List Fd) (a n : Nat) : ∀ b : List UInt8, b.length = 512 → (∀ f ∈ fs, f.ok) → (∀ f ∈ fs, a + n ≤ f.at_ ∨ f.at_ + f.long ≤ a) → fld (lay b fs) a n = fld b a n := by
  induction fs with
  | nil => intro b _ _ _; rfl
  | cons f fs ih =>
    intro b h hf ha
    have h1 := hf f (List.mem_cons_self ..)
    have h2 := ha f (List.mem_cons_self ..)
    have h3 := h1.1
    have h4 := h1.2
    rw [lay_cons, ih _ (by rw [over_len _ _ _ (by omega), h]) (fun g hg => hf g (List.mem_cons_of_mem _ hg)) (fun g hg => ha g (List.mem_cons_of_mem _ hg))]
    exact fld_far b _ _ (by omega) a n (by omega)
theorem lay_at (fs : List Fd) : ∀ b : List UInt8, b.length = 512 → (∀ f ∈ fs, f.ok) → fs.Pairwise Fd.apart → (∀ f ∈ fs, fld b f.at_ f.long = List.replicate f.long 0) →
    ∀ f ∈ fs, fld (lay b fs) f.at_ f.long = f.txt ++ List.replicate (f.long - f.txt.length) 0 := by
  induction fs with
  | nil => intro b _ _ _ _ f h; cases h
  | cons g fs ih =>
    intro b h hf hp hz f hm
    have h1 := hf g (List.mem_cons_self ..)
    have h3 := h1.1
    have h4 := h1.2
    have hlen : (over b g.at_ g.txt).length = 512 := by rw [over_len _ _ _ (by omega), h]
    rw [List.pairwise_cons] at hp
    rcases List.mem_cons.1 hm with rfl | hm
    · rw [lay_cons, lay_far fs f.at_ f.long _ hlen (fun g hg => hf g (List.mem_cons_of_mem _ hg)) (fun g hg => by have := hp.1 g hg; unfold Fd.apart at this; omega)]
      rw [fld_at b _ _ _ (by omega) h3, hz f (List.mem_cons_self ..), List.drop_replicate]
    · rw [lay_cons]
      refine ih _ hlen (fun g hg => hf g (List.mem_cons_of_mem _ hg)) hp.2 (fun k hk => ?_) f hm
      have := hp.1 k hk
      unfold Fd.apart at this
      rw [fld_far b _ _ (by omega) _ _ (by omega)]
      exact hz k (List.mem_cons_of_mem _ hk)

def blank : List UInt8 := List.replicate 512 0
theorem blank_len : blank.length = 512 := List.length_replicate
theorem blank_fld (a n : Nat) (h : a + n ≤ 512) : fld blank a n = List.replicate n 0 := by
  unfold fld blank
  rw [List.drop_replicate, List.take_replicate, Nat.min_eq_left (by omega)]
theorem fld_sld (l : List UInt8) (hl : l.length = 512) (a n : Nat) (h : a + n ≤ 148 ∨ 156 ≤ a) : fld (Bk.sld l) a n = fld l a n := by
  rcases h with h | h
  · have e : ∀ x : List UInt8, fld x a n = fld (x.take 148) a n := fun x => by
      unfold fld; rw [List.drop_take, List.take_take, Nat.min_eq_left (by omega)]
    rw [e (Bk.sld l), Bk.seal_take l hl, ← e]
  · have e : ∀ x : List UInt8, fld x a n = fld (x.drop 156) (a - 156) n := fun x => by
      unfold fld; rw [List.drop_drop, show 156 + (a - 156) = a by omega]
    rw [e (Bk.sld l), Bk.seal_drop l hl, ← e]

/-- What a header tells. -/
structure HRaw where
  name : List UInt8
  link : List UInt8
  user : List UInt8
  group : List UInt8
  front : List UInt8
  kind : UInt8
  mode : Int
  uid : Int
  gid : Int
  size : Int
  time : Int
  major : Int
  minor : Int
  deriving DecidableEq

/-- a number in a field of W bytes -/
def numW (bin : Bool) (W : Nat) (n : Int) : Option (List UInt8) :=
  if 0 ≤ n ∧ n ≤ Num.most W then some (Num.octal n.toNat W)
  else if bin = true ∧ 8 ≤ W ∧ (W = 8 → -36028797018963968 ≤ n ∧ n ≤ 36028797018963967) then some (binLaw n W) else none
theorem numW_len {bin : Bool} {W : Nat} {n : Int} {l : List UInt8} (h : numW bin W n = some l) : l.length = W := by
  unfold numW at h
  split at h
  · cases h; exact Bk.octal_len _ _
  · split at h
    · cases h; simp [binLaw]
    · cases h
theorem numW_rd {bin : Bool} {W : Nat} {n : Int} {l : List UInt8} (h1 : 2 ≤ W) (h2 : W ≤ 20) (hn1 : -9223372036854775808 ≤ n) (hn2 : n ≤ 9223372036854775807) (h : numW bin W n = some l) : rd l = some n := by
  unfold numW at h
  split at h
  · rename_i hc
    cases h
    have := rd_octal n.toNat W h1 h2 (by omega)
    rw [this]; congr 1; omega
  · rename_i hc
    split at h
    · rename_i hb
      cases h
      obtain ⟨c, cs, e, hh⟩ := bin_head n W (by omega)
      have := wide_of_bin n W h2 hn1 hn2 ⟨hb.2.1, by omega, hb.2.2⟩
      rw [e] at this ⊢
      simp only [rd]
      rw [if_neg (by omega)]; exact this
    · cases h

/-- The text up to the first byte 0. -/
def upTo0 (l : List UInt8) : List UInt8 := l.takeWhile (· != 0)
theorem upTo0_of (l : List UInt8) (h : ∀ x ∈ l, x ≠ 0) (k : Nat) : upTo0 (l ++ List.replicate k 0) = l := by
  unfold upTo0
  induction l with
  | nil => cases k <;> rfl
  | cons c l ih =>
    rw [List.cons_append, List.takeWhile_cons, if_pos (by simpa using h c (List.mem_cons_self ..)), ih fun x hx => h x (List.mem_cons_of_mem _ hx)]

def i64 (n : Int) : Prop := -9223372036854775808 ≤ n ∧ n ≤ 9223372036854775807
def HRaw.wf (r : HRaw) : Prop := i64 r.mode ∧ i64 r.uid ∧ i64 r.gid ∧ i64 r.size ∧ i64 r.time ∧ i64 r.major ∧ i64 r.minor

def tFit (n : Nat) (l : List UInt8) : Prop := l.length ≤ n ∧ ∀ x ∈ l, x ≠ 0
def HRaw.tOk (r : HRaw) : Prop := tFit 100 r.name ∧ tFit 100 r.link ∧ tFit 32 r.user ∧ tFit 32 r.group ∧ tFit 155 r.front
def fitsD (d : Nat) (r : HRaw) : Prop := (d = 1 → r.user = [] ∧ r.group = [] ∧ r.front = [] ∧ r.major = 0 ∧ r.minor = 0) ∧ (d = 3 → r.front = [])
def magicD (d : Nat) : List UInt8 := if d = 1 then [] else if d = 3 then [117, 115, 116, 97, 114, 32, 32, 0] else [117, 115, 116, 97, 114, 0, 48, 48]
/-- the fields of texts -/
def tFds (r : HRaw) : List Fd := [⟨0, 100, r.name⟩, ⟨157, 100, r.link⟩, ⟨265, 32, r.user⟩, ⟨297, 32, r.group⟩, ⟨345, 155, r.front⟩]
def nSpots : List (Nat × Nat) := [(100, 8), (108, 8), (116, 8), (124, 12), (136, 12), (329, 8), (337, 8)]
def HRaw.nums (r : HRaw) : List Int := [r.mode, r.uid, r.gid, r.size, r.time, r.major, r.minor]
def manyD (d : Nat) : Nat := if d = 1 then 5 else 7
/-- the fields of numbers, by their texts -/
def nFds (ls : List (List UInt8)) : List Fd := (nSpots.zip ls).map fun x => ⟨x.1.1, x.1.2, x.2⟩
/-- The numbers' texts ls are those of a dialect. -/
def NumsOk (d : Nat) (r : HRaw) (ls : List (List UInt8)) : Prop := ls.length = manyD d ∧ ∀ i, (h : i < ls.length) → numW (d == 3) (nSpots[i]?.getD (0, 0)).2 (r.nums[i]?.getD 0) = some ls[i]
def kFds (r : HRaw) (d : Nat) : List Fd := [⟨156, 1, [r.kind]⟩, ⟨257, 8, magicD d⟩]
def body (r : HRaw) (d : Nat) (ls : List (List UInt8)) : List UInt8 := lay (lay (lay blank (tFds r)) (nFds ls)) (kFds r d)
/-- A header's block. -/
def HWrite (d : Nat) (r : HRaw) (l : List UInt8) : Prop := r.kind ≠ 0 ∧ fitsD d r ∧ r.tOk ∧ ∃ ls, NumsOk d r ls ∧ l = Bk.sld (body r d ls)

def dialectL (l : List UInt8) : Nat := if fld l 257 8 = [117, 115, 116, 97, 114, 0, 48, 48] then 2 else if fld l 257 8 = [117, 115, 116, 97, 114, 32, 32, 0] then 3 else 1
/-- What a block tells, if its numbers can be read. -/
def HRead (l : List UInt8) (r : HRaw) (d : Nat) : Prop :=
  d = dialectL l ∧ r.kind = (if (fld l 156 1).headD 0 = 0 then 48 else (fld l 156 1).headD 0) ∧
  (∀ i, i < manyD d → rd (fld l (nSpots[i]?.getD (0, 0)).1 (nSpots[i]?.getD (0, 0)).2) = some (r.nums[i]?.getD 0)) ∧ (d = 1 → r.major = 0 ∧ r.minor = 0) ∧
  r.name = upTo0 (fld l 0 100) ∧ r.link = upTo0 (fld l 157 100) ∧ r.user = (if d = 1 then [] else upTo0 (fld l 265 32)) ∧ r.group = (if d = 1 then [] else upTo0 (fld l 297 32)) ∧
  r.front = (if d = 2 then upTo0 (fld l 345 155) else [])

theorem nFds_len {d : Nat} {r : HRaw} {ls : List (List UInt8)} (h : NumsOk d r ls) : ∀ f ∈ nFds ls, ∃ i, i < ls.length ∧ ∃ (hi : i < ls.length) (hj : i < nSpots.length), f = ⟨nSpots[i].1, nSpots[i].2, ls[i]⟩ ∧ (ls[i]).length = nSpots[i].2 := by
  intro f hf
  unfold nFds at hf
  rw [List.mem_map] at hf
  obtain ⟨x, hx, rfl⟩ := hf
  obtain ⟨i, hi, e⟩ := List.mem_iff_getElem.1 hx
  rw [List.length_zip] at hi
  have hj : i < nSpots.length := by omega
  have hi' : i < ls.length := by omega
  rw [List.getElem_zip] at e
  subst e
  refine ⟨i, hi', hi', hj, rfl, ?_⟩
  have := h.2 i hi'
  rw [List.getElem?_eq_getElem hj] at this
  exact numW_len this

end Go.Proofs.YtkhkjacnoiopcaaGreatDoor

set_option linter.unusedVariables false
set_option linter.unusedSimpArgs false
namespace Go.Proofs.YtkhkjacnoiopcaaGreatDoor
open Go

def allFds (r : HRaw) (d : Nat) (ls : List (List UInt8)) : List Fd := tFds r ++ (nFds ls ++ kFds r d)
theorem body_eq (r : HRaw) (d : Nat) (ls : List (List UInt8)) : body r d ls = lay blank (allFds r d ls) := by
  unfold body allFds; rw [lay_append, lay_append]
theorem magic_len (d : Nat) : (magicD d).length ≤ 8 := by unfold magicD; split; · simp
                                                          split <;> simp
theorem fds_ok {d : Nat} {r : HRaw} {ls : List (List UInt8)} (hn : NumsOk d r ls) (ht : r.tOk) : ∀ f ∈ allFds r d ls, f.ok := by
  intro f hf
  unfold allFds at hf
  rcases List.mem_append.1 hf with hf | hf
  · obtain ⟨h1, h2, h3, h4, h5⟩ := ht
    simp only [tFds, List.mem_cons, List.not_mem_nil, or_false] at hf
    rcases hf with rfl | rfl | rfl | rfl | rfl
    · exact ⟨h1.1, by simp⟩
    · exact ⟨h2.1, by simp⟩
    · exact ⟨h3.1, by simp⟩
    · exact ⟨h4.1, by simp⟩
    · exact ⟨h5.1, by simp⟩
  · rcases List.mem_append.1 hf with hf | hf
    · obtain ⟨i, hi, _, hj, rfl, hl⟩ := nFds_len hn f hf
      have : ∀ i, (hj : i < nSpots.length) → nSpots[i].1 + nSpots[i].2 ≤ 512 := by decide
      exact ⟨by show (ls[i]).length ≤ _; rw [hl]; exact Nat.le_refl _, this i hj⟩
    · simp only [kFds, List.mem_cons, List.not_mem_nil, or_false] at hf
      rcases hf with rfl | rfl
      · exact ⟨by simp, by simp⟩
      · exact ⟨magic_len d, by simp⟩
theorem list5 {α : Type} (l : List α) (h : l.length = 5) : ∃ a b c d e, l = [a, b, c, d, e] := by
  match l, h with
  | [a, b, c, d, e], _ => exact ⟨a, b, c, d, e, rfl⟩
theorem list7 {α : Type} (l : List α) (h : l.length = 7) : ∃ a b c d e f g, l = [a, b, c, d, e, f, g] := by
  match l, h with
  | [a, b, c, d, e, f, g], _ => exact ⟨a, b, c, d, e, f, g, rfl⟩
theorem fds_apart {d : Nat} {r : HRaw} {ls : List (List UInt8)} (hn : NumsOk d r ls) : (allFds r d ls).Pairwise Fd.apart := by
  have h1 := hn.1
  unfold manyD at h1
  split at h1
  · obtain ⟨a, b, c, x, e, rfl⟩ := list5 ls h1
    simp [allFds, tFds, nFds, nSpots, kFds, Fd.apart]
  · obtain ⟨a, b, c, x, e, f, g, rfl⟩ := list7 ls h1
    simp [allFds, tFds, nFds, nSpots, kFds, Fd.apart]
theorem body_fld {d : Nat} {r : HRaw} {ls : List (List UInt8)} (hn : NumsOk d r ls) (ht : r.tOk) : ∀ f ∈ allFds r d ls, fld (body r d ls) f.at_ f.long = f.txt ++ List.replicate (f.long - f.txt.length) 0 := by
  rw [body_eq]
  exact lay_at _ blank blank_len (fds_ok hn ht) (fds_apart hn) (fun f hf => blank_fld _ _ (fds_ok hn ht f hf).2)
theorem body_len {d : Nat} {r : HRaw} {ls : List (List UInt8)} (hn : NumsOk d r ls) (ht : r.tOk) : (body r d ls).length = 512 := by
  rw [body_eq]; exact lay_len _ blank blank_len (fds_ok hn ht)

def wantD (d : Nat) : Nat := if d = 4 then 2 else d

theorem num_get {d : Nat} {r : HRaw} {ls : List (List UInt8)} (hn : NumsOk d r ls) (ht : r.tOk) (hw : r.wf) (i : Nat) (hi : i < manyD d) :
    rd (fld (body r d ls) (nSpots[i]?.getD (0, 0)).1 (nSpots[i]?.getD (0, 0)).2) = some (r.nums[i]?.getD 0) := by
  have hi7 : i < 7 := by unfold manyD at hi; split at hi <;> omega
  have hil : i < ls.length := by rw [hn.1]; exact hi
  have hj : i < nSpots.length := hi7
  have h2 := hn.2 i hil
  have hlen : (ls[i]).length = nSpots[i].2 := by
    rw [List.getElem?_eq_getElem hj] at h2
    exact numW_len h2
  have hm : (⟨nSpots[i].1, nSpots[i].2, ls[i]⟩ : Fd) ∈ allFds r d ls := by
    unfold allFds nFds
    refine List.mem_append_right _ (List.mem_append_left _ (List.mem_map.2 ⟨(nSpots[i], ls[i]), ?_, rfl⟩))
    refine List.mem_iff_getElem.2 ⟨i, by rw [List.length_zip]; omega, ?_⟩
    rw [List.getElem_zip]
  have hf := body_fld hn ht _ hm
  rw [List.getElem?_eq_getElem hj] at h2 ⊢
  simp only [Option.getD_some] at h2 ⊢ hf
  rw [hf, hlen, Nat.sub_self]
  simp only [List.replicate_zero, List.append_nil]
  have hb : ∀ i, (hj : i < nSpots.length) → 2 ≤ nSpots[i].2 ∧ nSpots[i].2 ≤ 20 := by decide
  have hnum : i64 (r.nums[i]?.getD 0) := by
    obtain ⟨w1, w2, w3, w4, w5, w6, w7⟩ := hw
    match i, hi7 with
    | 0, _ => exact w1
    | 1, _ => exact w2
    | 2, _ => exact w3
    | 3, _ => exact w4
    | 4, _ => exact w5
    | 5, _ => exact w6
    | 6, _ => exact w7
  exact numW_rd (hb i hj).1 (hb i hj).2 hnum.1 hnum.2 h2

theorem txt_get {d : Nat} {r : HRaw} {ls : List (List UInt8)} (hn : NumsOk d r ls) (ht : r.tOk) (a n : Nat) (l : List UInt8) (hl : tFit n l) (hm : (⟨a, n, l⟩ : Fd) ∈ tFds r) : upTo0 (fld (body r d ls) a n) = l := by
  have := body_fld hn ht ⟨a, n, l⟩ (List.mem_append_left _ hm)
  simp only at this
  rw [this]
  exact upTo0_of l hl.2 _

theorem dialect_get {d : Nat} {r : HRaw} {ls : List (List UInt8)} (hd1 : 1 ≤ d) (hd4 : d ≤ 4) (hn : NumsOk d r ls) (ht : r.tOk) (l : List UInt8) (hl : fld l 257 8 = fld (body r d ls) 257 8) : dialectL l = wantD d := by
  have := body_fld hn ht ⟨257, 8, magicD d⟩ (List.mem_append_right _ (List.mem_append_right _ (by simp [kFds])))
  simp only at this
  unfold dialectL
  rw [hl, this]
  obtain rfl | rfl | rfl | rfl : d = 1 ∨ d = 2 ∨ d = 3 ∨ d = 4 := by omega
  all_goals decide

/-- What is written is read. -/
theorem write_read {d : Nat} {r : HRaw} {l : List UInt8} (hd1 : 1 ≤ d) (hd4 : d ≤ 4) (hw : r.wf) (h : HWrite d r l) : HRead l r (wantD d) := by
  obtain ⟨hk, ⟨hv, hg⟩, ht, ls, hn, rfl⟩ := h
  have hb := body_len hn ht
  have hs := fld_sld _ hb
  have hD := dialect_get hd1 hd4 hn ht (Bk.sld (body r d ls)) (hs 257 8 (by omega))
  obtain ⟨t1, t2, t3, t4, t5⟩ := ht
  have ht : r.tOk := ⟨t1, t2, t3, t4, t5⟩
  have hk1 : fld (body r d ls) 156 1 = [r.kind] := by
    have := body_fld hn ht ⟨156, 1, [r.kind]⟩ (List.mem_append_right _ (List.mem_append_right _ (by simp [kFds])))
    simpa using this
  refine ⟨hD.symm, ?_, ?_, ?_, ?_, ?_, ?_, ?_, ?_⟩
  · rw [hs 156 1 (by omega), hk1]
    simp [hk]
  · intro i hi
    have hmw : manyD (wantD d) = manyD d := by unfold manyD wantD; split <;> simp_all
    rw [hmw] at hi
    have hi7 : i < 7 := by unfold manyD at hi; split at hi <;> omega
    rw [hs _ _ (by match i, hi7 with
      | 0, _ => decide
      | 1, _ => decide
      | 2, _ => decide
      | 3, _ => decide
      | 4, _ => decide
      | 5, _ => decide
      | 6, _ => decide)]
    exact num_get hn ht hw i hi
  · intro h1
    have : d = 1 := by unfold wantD at h1; split at h1 <;> omega
    exact ⟨(hv this).2.2.2.1, (hv this).2.2.2.2⟩
  · rw [hs _ _ (by omega)]; exact (txt_get hn ht 0 100 r.name t1 (by simp [tFds])).symm
  · rw [hs _ _ (by omega)]; exact (txt_get hn ht 157 100 r.link t2 (by simp [tFds])).symm
  · by_cases h1 : d = 1
    · rw [if_pos (by rw [h1]; rfl)]; exact (hv h1).1
    · rw [if_neg (by unfold wantD; split <;> omega), hs _ _ (by omega)]; exact (txt_get hn ht 265 32 r.user t3 (by simp [tFds])).symm
  · by_cases h1 : d = 1
    · rw [if_pos (by rw [h1]; rfl)]; exact (hv h1).2.1
    · rw [if_neg (by unfold wantD; split <;> omega), hs _ _ (by omega)]; exact (txt_get hn ht 297 32 r.group t4 (by simp [tFds])).symm
  · have hf := (txt_get hn ht 345 155 r.front t5 (by simp [tFds])).symm
    obtain rfl | rfl | rfl | rfl : d = 1 ∨ d = 2 ∨ d = 3 ∨ d = 4 := by omega
    · rw [if_neg (by decide)]; exact (hv rfl).2.2.1
    · rw [if_pos (by decide), hs _ _ (by omega)]; exact hf
    · rw [if_neg (by decide)]; exact hg rfl
    · rw [if_pos (by decide), hs _ _ (by omega)]; exact hf

/-- The numbers' texts are what the numbers are. -/
theorem nums_one {d : Nat} {r : HRaw} {ls ms : List (List UInt8)} (h : NumsOk d r ls) (h' : NumsOk d r ms) : ls = ms := by
  refine List.ext_getElem (by rw [h.1, h'.1]) fun i h1 h2 => ?_
  have e1 := h.2 i h1
  rw [h'.2 i h2] at e1
  exact (Option.some.inj e1).symm
theorem write_one {d : Nat} {r : HRaw} {l m : List UInt8} (h : HWrite d r l) (h' : HWrite d r m) : l = m := by
  obtain ⟨_, _, _, ls, hn, rfl⟩ := h
  obtain ⟨_, _, _, ms, hm, rfl⟩ := h'
  rw [nums_one hn hm]
theorem write_len {d : Nat} {r : HRaw} {l : List UInt8} (h : HWrite d r l) : l.length = 512 := by
  obtain ⟨_, _, ht, ls, hn, rfl⟩ := h
  exact Bk.seal_len _ (body_len hn ht)
theorem write_right {d : Nat} {r : HRaw} {l : List UInt8} (h : HWrite d r l) : rightL l = true := by
  obtain ⟨_, _, ht, ls, hn, rfl⟩ := h
  exact right_seal _ (body_len hn ht)

end Go.Proofs.YtkhkjacnoiopcaaGreatDoor
