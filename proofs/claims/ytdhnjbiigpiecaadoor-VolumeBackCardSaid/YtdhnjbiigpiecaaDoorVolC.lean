/-
  volume.Join: plain facts; the way through good volumes.
-/
import Derived.Test.YtdhnjbiigpiecaaDoorVolB
import Derived.Test.YtdhnjbiigpiecaaDoorMapF
import Derived.Test.YtdhnjbiigpiecaaDoorTell
import Derived.Maps.Keyed
namespace Go.Proofs.YtdhnjbiigpiecaaDoor
open Go.RowKit

abbrev Part := Nat × List UInt8
def ptv (p : List UInt8) : Value := .agg #[.string (bs p)]
def findP (ps : List Part) (x : Int) : Option Part := ps.find? fun q => decide ((q.1 : Int) = x)
/-- What the map holds behind the volumes ps. -/
def partF (ps : List Part) (x : Int) : Option Value := (findP ps x).map fun q => ptv q.2
def getP (ps : List Part) (x : Int) : List UInt8 := ((findP ps x).map (·.2)).getD []
theorem findP_mem {ps : List Part} {x : Int} {q : Part} (h : findP ps x = some q) : q ∈ ps ∧ (q.1 : Int) = x :=
  ⟨List.mem_of_find?_eq_some h, by have := List.find?_some h; simpa using this⟩
theorem partF_none {ps : List Part} {x : Int} : partF ps x = none ↔ ∀ q ∈ ps, (q.1 : Int) ≠ x := by
  unfold partF findP
  simp
theorem partF_snoc {ps : List Part} {i : Nat} {p : List UInt8} (h : ∀ q ∈ ps, q.1 ≠ i) : (fun x => if x = (i : Int) then some (ptv p) else partF ps x) = partF (ps ++ [(i, p)]) := by
  funext x
  unfold partF findP
  rw [List.find?_append]
  by_cases hx : x = (i : Int)
  · subst hx
    have hn : ps.find? (fun q => decide ((q.1 : Int) = (i : Int))) = none := by
      rw [List.find?_eq_none]; intro q hq; simp; intro e; exact h q hq (by omega)
    rw [if_pos rfl, hn]; simp
  · rw [if_neg hx]
    have : ([(i, p)] : List Part).find? (fun q => decide ((q.1 : Int) = x)) = none := by simp; omega
    rw [this]; simp
theorem partF_get (ps : List Part) (x : Int) : (partF ps x).getD (ptv []) = ptv (getP ps x) := by
  unfold partF getP
  cases findP ps x <;> rfl
/-- of parts whose numbers are apart -/
theorem getP_of {ps : List Part} (hd : ps.Pairwise fun p q => p.1 ≠ q.1) {i : Nat} {p : List UInt8} (h : (i, p) ∈ ps) : getP ps i = p := by
  unfold getP
  cases hf : findP ps i with
  | none =>
    have := List.find?_eq_none.1 hf _ h
    simp at this
  | some q =>
    obtain ⟨hq, e⟩ := findP_mem hf
    have e' : q.1 = i := by omega
    have : q = (i, p) := by
      refine Decidable.byContradiction fun hne => ?_
      have hsym : ∀ x ∈ ps, ∀ y ∈ ps, x ≠ y → x.1 ≠ y.1 := fun x hx y hy hxy => by
        obtain ⟨a, ha, rfl⟩ := List.getElem_of_mem hx
        obtain ⟨c, hc, rfl⟩ := List.getElem_of_mem hy
        rcases Nat.lt_trichotomy a c with h1 | h1 | h1
        · exact List.pairwise_iff_getElem.1 hd a c ha hc h1
        · subst h1; exact absurd rfl hxy
        · exact fun e => List.pairwise_iff_getElem.1 hd c a hc ha h1 e.symm
      exact hsym q hq (i, p) h hne e'
    subst this; rfl
def joinP (ps : List Part) (k : Nat) : List UInt8 := ((List.range k).map fun i => getP ps (i : Nat)).flatten
theorem joinP_succ (ps : List Part) (k : Nat) : joinP ps (k + 1) = joinP ps k ++ getP ps k := by simp [joinP, List.range_succ]
theorem getP_len {ps : List Part} (h : ∀ q ∈ ps, q.2.length ≤ 3072) (x : Int) : (getP ps x).length ≤ 3072 := by
  unfold getP
  cases hf : findP ps x with
  | none => simp
  | some q => exact h q (findP_mem hf).1
theorem joinP_len {ps : List Part} (h : ∀ q ∈ ps, q.2.length ≤ 3072) : ∀ k, (joinP ps k).length ≤ 3072 * k
  | 0 => by simp [joinP]
  | k + 1 => by
    rw [joinP_succ, List.length_append]
    have := joinP_len h k
    have := getP_len h (k : Nat)
    omega

/-- volume.read of a volume. -/
theorem vread_vol (i n : Nat) (p : List UInt8) (hi : i < n) (hn : n ≤ 20) (hp : p.length ≤ 3072) (w : World) :
    Calls Tryd.prog 15 #[.string (bs (vol i n p))] w fun e w' => e = .returned (.tuple #[.agg (vcells i n p.length), .string (bs p), .nilIface]) ∧ Below w.heap.size w w' := by
  have hl : (vhdr i n p.length).length = 512 := vhdr_len (by omega) (by omega) (by omega)
  have hS : (bs (vol i n p)).size = 512 + (p.length + Bk.pad p.length) := by
    rw [bs_size, vol, List.length_append, hl, Bk.fill_len]
  have hpl := Bk.pad_lt p.length
  have hH : (bs (vol i n p)).extract 0 512 = bs (vhdr i n p.length) := ba_ext (by rw [ext_to, bs_list, bs_list, vol, List.take_append_of_le_length (by omega), List.take_of_length_le (by omega)])
  have hR : (bs (vol i n p)).extract 512 (bs (vol i n p)).size = bs (Bk.fill p) := ba_ext (by rw [ext_end, bs_list, bs_list, vol, List.drop_append_of_le_length (by omega), List.drop_of_length_le (by omega)]; rfl)
  have hP : (bs (Bk.fill p)).extract 0 p.length = bs p := ba_ext (by rw [ext_to, bs_list, bs_list, Bk.fill]; simp)
  exact vread_ok i n p.length hi hn (bs (vol i n p)) (bs (vhdr i n p.length)) (bs (Bk.fill p)) (bs p) (by omega) (by omega) (by omega) hH hR hP (by rw [bs_size, Bk.fill_len]; omega) (by unfold fillB; rfl) (by rw [bs_size]; omega)
    (by rw [bs_list]; exact vhdr_ok (by omega) (by omega) (by omega)) w

end Go.Proofs.YtdhnjbiigpiecaaDoor
