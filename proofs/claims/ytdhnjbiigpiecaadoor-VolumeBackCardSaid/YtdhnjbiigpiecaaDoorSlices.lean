/-
  A slice literal of one element of several cells: the new block is just that element's cells.
-/
import Derived.Test.YtdhnjbiigpiecaaDoorBase
import Derived.OwnWalk
import Derived.Laws.MakeOwn
namespace Go.Proofs.YtdhnjbiigpiecaaDoor
open Go.RowKit

theorem foldl_set_size (l : List (Value × Nat)) (z : Array Value) : (l.foldl (fun cs x => cs.setIfInBounds x.2 x.1) z).size = z.size := by
  induction l generalizing z with
  | nil => rfl
  | cons x l ih => simp only [List.foldl_cons]; rw [ih]; simp

theorem foldl_set_get (l : List Value) : ∀ (n : Nat) (z : Array Value) (i : Nat), n + l.length ≤ z.size → ((l.zipIdx n).foldl (fun cs x => cs.setIfInBounds x.2 x.1) z)[i]? = if n ≤ i ∧ i < n + l.length then l[i - n]? else z[i]? := by
  induction l with
  | nil => intro n z i h; rw [if_neg (by simp only [List.length_nil]; omega)]; rfl
  | cons c l ih =>
    intro n z i h
    simp only [List.zipIdx_cons, List.foldl_cons]
    rw [ih (n + 1) _ i (by simp at h ⊢; omega)]
    simp only [List.length_cons] at h ⊢
    by_cases h1 : n + 1 ≤ i ∧ i < n + 1 + l.length
    · rw [if_pos h1, if_pos (by omega), show i - n = (i - (n + 1)) + 1 by omega, List.getElem?_cons_succ]
    · rw [if_neg h1, Array.getElem?_setIfInBounds]
      by_cases h2 : n = i
      · subst h2
        rw [if_pos rfl, if_pos (by omega), if_pos (by omega), Nat.sub_self]; rfl
      · rw [if_neg h2, if_neg (by omega)]

theorem fill_one (cs z : Array Value) (size : Nat) (hs : cs.size = size) (hz : z.size = cs.size) : Instr.fill (fun i => some (i * size, size)) z [(0, .agg cs)] = some cs := by
  have h1 : (Value.agg cs).cells.size = size := hs
  simp only [Instr.fill]
  rw [if_neg (by simp [Value.cells, hs, hz])]
  congr 1
  apply Array.ext_getElem?
  intro i
  have e : (Value.agg cs).cells.zipIdx.foldl (fun (acc : Array Value) (x : Value × Nat) => acc.setIfInBounds (0 * size + x.2) x.1) z = (cs.toList.zipIdx 0).foldl (fun acc x => acc.setIfInBounds x.2 x.1) z := by
    rw [← Array.foldl_toList, Array.toList_zipIdx]
    simp [Value.cells]
  refine (congrArg (fun a : Array Value => a[i]?) e).trans ?_
  show ((cs.toList.zipIdx 0).foldl (fun acc x => acc.setIfInBounds x.2 x.1) z)[i]? = cs[i]?
  rw [foldl_set_get _ _ _ _ (by simp; omega)]
  simp only [Array.length_toList, Nat.zero_add, Nat.zero_le, true_and, Nat.sub_zero, Array.getElem?_toList]
  by_cases h : i < cs.size
  · rw [if_pos h]
  · rw [if_neg h, Array.getElem?_eq_none (by omega), Array.getElem?_eq_none (by omega)]

theorem run_buildSlice_one {P : Program} (w : World) (t e : TypeId) (cs z : Array Value) (ht : P.underlying t = some (.slice e)) (hi : (P.info? e).map (·.size) = some cs.size) (hz : (zeroValue e).run P w = .ok (.agg z) w)
    (hp : 0 < cs.size) (hm : cs.size ≤ 1000000) :
    (Instr.buildSlice t 1 #[(0, .agg cs)]).run P w = .ok (.slice (some ⟨w.heap.size, 0, none⟩) 1 1) (w.alloc (.cells cs e)) := by
  cases hq : P.info? e with
  | none => simp [hq] at hi
  | some i =>
    have hs : i.size = cs.size := by simpa [hq] using hi
    have hf := fill_one cs ((Array.range (1 * i.size)).map (z[· % z.size]!)) i.size hs.symm (by simp [hs])
    simp only [Nat.one_mul] at hf
    have hn : ¬ i.size > 2 ^ 24 := by omega
    have hn0 : ¬ i.size = 0 := by omega
    simp [Instr.buildSlice, run_underlying ht, sizeOf, typeInfo, hq, hn0, hz, Value.cells, hf, newRow]
    omega

theorem wpList_buildSlice_one {P : Program} {ops : Array Oper} {rest : List Oper} {o : Oper} {a : Act} {w : World} {Q : Exit → Act → World → Prop} (hgd : o.guard = none) (t e : TypeId) (x : Operand)
    (ho : o.op = .buildSlice t 1 #[(0, x)]) (cs z : Array Value) (hx : a.eval x = .agg cs) (ht : P.underlying t = some (.slice e)) (hi : (P.info? e).map (·.size) = some cs.size) (hz : (zeroValue e).run P w = .ok (.agg z) w)
    (hp : 0 < cs.size) (hm : cs.size ≤ 1000000)
    (h : wpList P ops Q rest (a.put o.dst (.slice (some ⟨w.heap.size, 0, none⟩) 1 1)) (w.alloc (.cells cs e))) : wpList P ops Q (o :: rest) a w :=
  wpList_plain hgd fun _ hK => by
    unfold Oper.wp execOp
    have hr := run_buildSlice_one (P := P) w t e cs z ht hi hz hp hm
    simp only [ho, List.map_toArray, List.map_cons, List.map_nil, hx, Sem.run_bind, Sem.run_pure, hr, Result.andThen_ok]
    exact hK _ _ h

/-- A row of n cells told by a function. -/
def rowArr (n : Nat) (f : Nat → Value) : Array Value := ((List.range n).map f).toArray
theorem rowArr_size (n : Nat) (f : Nat → Value) : (rowArr n f).size = n := by simp [rowArr]
theorem rowArr_at (n : Nat) (f : Nat → Value) (i : Nat) (h : i < n) : (rowArr n f)[i]? = some (f i) := by simp [rowArr, h]
theorem rowArr_set (n : Nat) (f g : Nat → Value) (i : Nat) (v : Value) (hg : ∀ x, x < n → g x = if x = i then v else f x) : (rowArr n f).setIfInBounds i v = rowArr n g := by
  apply Array.ext_getElem?
  intro j
  rw [Array.getElem?_setIfInBounds]
  by_cases hj : j < n
  · rw [rowArr_at n g j hj, hg j hj, rowArr_size]
    by_cases h : i = j
    · subst h; rw [if_pos rfl, if_pos hj, if_pos rfl]
    · rw [if_neg h, if_neg (fun e => h e.symm), rowArr_at n f j hj]
  · rw [Array.getElem?_eq_none (by rw [rowArr_size]; omega : (rowArr n g).size ≤ j)]
    split
    · rw [if_neg (by rw [rowArr_size]; omega)]
    · rw [Array.getElem?_eq_none (by rw [rowArr_size]; omega)]
theorem rowArr_ext {n : Nat} {f g : Nat → Value} (h : ∀ x, x < n → f x = g x) : rowArr n f = rowArr n g := by
  unfold rowArr; congr 1; exact List.map_congr_left fun x hx => h x (by simpa using hx)
theorem madeCells_one (z : Value) (n : Nat) : madeCells #[z] n = rowArr n (fun _ => z) := by
  apply Array.ext_getElem?
  intro i
  by_cases h : i < n
  · rw [rowArr_at n _ i h]; simp [madeCells, h, Nat.mod_one]
  · rw [Array.getElem?_eq_none (by rw [size_madeCells]; omega), Array.getElem?_eq_none (by rw [rowArr_size]; omega)]

/-- make([]T, n) of one-cell elements, as the walk meets it. -/
theorem run_make_one {P : Program} (t e : TypeId) (z : Value) (bytes : Nat) (ht : P.underlying t = some (.slice e)) (hinfo : (P.info? e).map (fun i => (i.zero, i.size, i.bytes)) = some (some z, 1, bytes)) (hc : z.cells = #[z])
    (n : Nat) (q : Int) (hq : q = n) (hb : n * bytes ≤ 281474976710656) (h63 : n ≤ 9223372036854775807) (w : World) :
    (Instr.makeSlice t (.int .i64 q) (.int .i64 q)).run P w = .ok (.slice (some ⟨w.heap.size, 0, none⟩) n n) (w.alloc (.cells (rowArr n (fun _ => z)) e)) := by
  subst hq
  obtain ⟨i, hi, hz, hs, hby⟩ := info_parts hinfo
  have hr := run_make (P := P) w t e i z ht hi hz .i64 .i64 (n : Int) (n : Int) (by omega) (by omega) (by
    rw [hby, Int.mul_comm, ← Int.natCast_mul]; omega) (by omega)
  rw [hr, hc, hs]
  simp only [Int.toNat_natCast, Nat.mul_one, madeCells_one]

end Go.Proofs.YtdhnjbiigpiecaaDoor
