/-
  Small facts on worlds that every text of this seat uses: a block that is known whole, and what stays as it was.
-/
import Derived.Test.YtipajekehbpghaaGreatDoorRows
import Derived.WalkKit
import Derived.WalkSpells
import Derived.WalkLawsBesides
import Derived.BigQuiet
import Derived.Deep.QuietTactic
import Derived.Lib.Hide
import Derived.Lib.ConvBytes
import Derived.Lib.UnsafeStr
import Derived.OwnWalk
import Derived.Laws.MakeOwn
import Derived.Lib.LazyBuf
import Derived.Laws.IdiomCopy
import Derived.RegionTactic
set_option linter.unusedVariables false
set_option linter.unusedSimpArgs false

namespace Go.Proofs.YtipajekehbpghaaGreatDoor
open Go.RowKit

/-- Block g is just the cells cs of element type t, none frozen. -/
def Blk (w : World) (g : Nat) (t : TypeId) (cs : Array Value) : Prop := w.heap[g]? = some (.cells cs t (0, 0))

section
variable {w w' : World} {g : Nat} {t : TypeId} {cs : Array Value}
theorem Blk.lt (h : Blk w g t cs) : g < w.heap.size := by
  rcases Nat.lt_or_ge g w.heap.size with hlt | hge
  · exact hlt
  · unfold Blk at h; rw [Array.getElem?_eq_none hge] at h; cases h
theorem Blk.cell (h : Blk w g t cs) (i : Nat) : w.cell? ⟨g, i, none⟩ = cs[i]? := cell_of_row w g i cs t (0, 0) h
theorem Blk.frozen (h : Blk w g t cs) (i : Nat) : w.frozen? ⟨g, i, none⟩ = false := by
  unfold Blk at h
  simp [World.frozen?, h]
theorem Blk.new (w : World) (t : TypeId) (cs : Array Value) : Blk (w.alloc (.cells cs t)) w.heap.size t cs := heap_alloc_new w _
theorem Blk.drew (h : Blk w g t cs) : Blk w.drew g t cs := h
theorem Blk.drewN (h : Blk w g t cs) (n : Nat) : Blk (w.drewN n) g t cs := h
theorem Blk.alloc (h : Blk w g t cs) (o : Obj) : Blk (w.alloc o) g t cs := (Below.heap_alloc w o g h.lt).trans h
theorem Blk.set_ (h : Blk w g t cs) (i : Nat) (u : Value) : Blk (w.setCell ⟨g, i, none⟩ u) g t (cs.setIfInBounds i u) := by
  unfold Blk at h ⊢
  simp [World.setCell, Array.getElem?_modify, h]
theorem Blk.far (h : Blk w g t cs) {p : Addr} (hp : g ≠ p.block) (u : Value) : Blk (w.setCell p u) g t cs := (Below.heap_setCell w p u g hp).trans h
theorem Blk.below {B : Nat} (h : Blk w g t cs) (hb : Below B w w') (hg : g < B) : Blk w' g t cs := (hb.block g hg).trans h
theorem Blk.grown {row : Option Nat} (h : Blk w g t cs) (hb : w.grownBy w' row) (hg : some g ≠ row) : Blk w' g t cs := (hb.block g h.lt hg).trans h
end

theorem only_refl (w : World) (row : Option Nat) : w.grownBy w row := World.grownBy.refl w row
theorem only_drewN {a w : World} {row : Option Nat} (h : a.grownBy w row) (n : Nat) : a.grownBy (w.drewN n) row := ⟨h.os, h.tape, h.output, h.size, h.block⟩
theorem only_drew {a w : World} {row : Option Nat} (h : a.grownBy w row) : a.grownBy w.drew row := ⟨h.os, h.tape, h.output, h.size, h.block⟩
theorem only_alloc {a w : World} {row : Option Nat} (h : a.grownBy w row) (o : Obj) : a.grownBy (w.alloc o) row :=
  ⟨h.os, h.tape, h.output, Nat.le_trans h.size (by simp), fun i hi hne => (Below.heap_alloc w o i (Nat.lt_of_lt_of_le hi h.size)).trans (h.block i hi hne)⟩
theorem only_setCell {a w : World} {g : Nat} (h : a.grownBy w (some g)) {p : Addr} (hp : p.block = g ∨ a.heap.size ≤ p.block) (u : Value) : a.grownBy (w.setCell p u) (some g) :=
  ⟨h.os, h.tape, h.output, by simpa [World.setCell] using h.size, fun i hi hne => (Below.heap_setCell w p u i (by
    rintro rfl
    rcases hp with hp | hp
    · exact hne (by rw [hp])
    · omega)).trans (h.block i hi hne)⟩
theorem only_trans {a b c : World} {row : Option Nat} (h : a.grownBy b row) (k : b.grownBy c row) : a.grownBy c row :=
  ⟨k.os.trans h.os, k.tape.trans h.tape, k.output.trans h.output, Nat.le_trans h.size k.size, fun i hi hne => (k.block i (Nat.lt_of_lt_of_le hi h.size) hne).trans (h.block i hi hne)⟩
theorem only_of_below {a w : World} (h : Below a.heap.size a w) (row : Option Nat) : a.grownBy w row := ⟨h.os, h.tape, h.output, h.size, fun i hi _ => h.block i hi⟩
theorem below_of_only {B : Nat} {a w w' : World} {g : Nat} (h : Below B a w) (k : w.grownBy w' (some g)) (hB : B ≤ w.heap.size) (hg : B ≤ g) : Below B a w' :=
  h.grown k hB (fun q hq => by cases hq; exact hg)
theorem below_drewN {B : Nat} {a w : World} (h : Below B a w) (n : Nat) : Below B a (w.drewN n) := ⟨h.os, h.tape, h.output, h.size, h.block⟩

theorem Blk.row {w : World} {g : Nat} {t : TypeId} {cs : Array Value} (h : Blk w g t cs) (cs' : Array Value) : Blk (w.setRow g cs') g t cs' := setRow_heap w g cs cs' t _ h
theorem Blk.farRow {w : World} {g : Nat} {t : TypeId} {cs : Array Value} (h : Blk w g t cs) {k : Nat} (hk : g ≠ k) (cs' : Array Value) : Blk (w.setRow k cs') g t cs := (setRow_other w k g cs' hk).trans h
theorem only_setRow {a w : World} {g k : Nat} (h : a.grownBy w (some g)) (hp : k = g ∨ a.heap.size ≤ k) (cs : Array Value) : a.grownBy (w.setRow k cs) (some g) :=
  ⟨h.os, h.tape, h.output, by simpa using h.size, fun i hi hne => (setRow_other w k i cs (by
    rintro rfl
    rcases hp with hp | hp
    · exact hne (by rw [hp])
    · omega)).trans (h.block i hi hne)⟩

theorem thenB {a b c : World} (h : Below a.heap.size a b) (k : Below b.heap.size b c) : Below a.heap.size a c := h.trans (k.mono h.size)

/-! Bytes as the walk writes them. -/
theorem u8_ne {c d : UInt8} (h : c ≠ d) : ((c.toNat : Int) == (d.toNat : Int)) = false := by
  rw [beq_eq_false_iff_ne]; intro e; exact h (UInt8.toNat_inj.1 (Int.ofNat_inj.1 e))
theorem u8_eq {c d : UInt8} (h : c = d) : ((c.toNat : Int) == (d.toNat : Int)) = true := by rw [h]; simp
theorem u8_bne {c d : UInt8} (h : c ≠ d) : ((c.toNat : Int) != (d.toNat : Int)) = true := by simp [bne, u8_ne h]
theorem u8_beq (c d : UInt8) : ((c.toNat : Int) == (d.toNat : Int)) = (c == d) := by
  by_cases h : c = d
  · rw [u8_eq h, h]; simp
  · rw [u8_ne h]; symm; simpa using h
theorem u8_lt (c : UInt8) : (c.toNat : Int) < 256 := by have := c.toNat_lt; omega
theorem u8_nat_lt (c : UInt8) : c.toNat < 256 := c.toNat_lt

end Go.Proofs.YtipajekehbpghaaGreatDoor

namespace Go.Proofs.YtipajekehbpghaaGreatDoor
open Go.RowKit

/-- Block g begins with the bytes l, none frozen. -/
def Bytes (w : World) (g : Nat) (l : List UInt8) : Prop := ∀ (j : Nat) (hj : j < l.length), w.cell? ⟨g, j, none⟩ = some (.int .u8 (l[j].toNat : Int)) ∧ w.frozen? ⟨g, j, none⟩ = false

section
variable {w w' : World} {g : Nat} {l : List UInt8}
theorem Bytes.cell (h : Bytes w g l) {j : Nat} (hj : j < l.length) : w.cell? ⟨g, j, none⟩ = some (.int .u8 (l[j].toNat : Int)) := (h j hj).1
theorem Bytes.frozen (h : Bytes w g l) {j : Nat} (hj : j < l.length) : w.frozen? ⟨g, j, none⟩ = false := (h j hj).2
theorem Bytes.drew (h : Bytes w g l) : Bytes w.drew g l := h
theorem Bytes.drewN (h : Bytes w g l) (n : Nat) : Bytes (w.drewN n) g l := h
theorem Bytes.same (h : Bytes w g l) (e : w'.heap[g]? = w.heap[g]?) : Bytes w' g l := fun j hj => by
  obtain ⟨h1, h2⟩ := h j hj
  constructor
  · rw [← h1]; simp [World.cell?, e]
  · rw [← h2]; exact World.frozen?_of_block (a := ⟨g, j, none⟩) e
theorem Bytes.alloc (h : Bytes w g l) (hg : g < w.heap.size) (o : Obj) : Bytes (w.alloc o) g l := h.same (Below.heap_alloc w o g hg)
theorem Bytes.below {B : Nat} (h : Bytes w g l) (hb : Below B w w') (hg : g < B) : Bytes w' g l := h.same (hb.block g hg)
theorem Bytes.far (h : Bytes w g l) {p : Addr} (hp : g ≠ p.block) (u : Value) : Bytes (w.setCell p u) g l := h.same (Below.heap_setCell w p u g hp)
theorem Bytes.set_ (h : Bytes w g l) (i : Nat) (v : UInt8) : Bytes (w.setCell ⟨g, i, none⟩ (.int .u8 (v.toNat : Int))) g (l.set i v) := fun j hj => by
  have hj' : j < l.length := by simpa using hj
  obtain ⟨h1, h2⟩ := h j hj'
  refine ⟨?_, by rw [World.frozen?_setCell]; exact h2⟩
  by_cases e : i = j
  · subst e
    rw [World.cell?_setCell_same _ _ _ h1]
    simp
  · rw [World.cell?_setCell_other _ _ _ _ (fun e2 => e (by cases e2; rfl)), h1, List.getElem_set_ne e]
theorem Bytes.of_conv (w : World) (e : TypeId) (s : ByteArray) : Bytes (Lib.bytesWorld w e s) w.heap.size s.data.toList := fun j hj => by
  have hj' : j < s.size := by simpa using hj
  constructor
  · rw [Lib.bytesWorld_cell w e s j hj', List.getD_eq_getElem?_getD, List.getElem?_eq_getElem hj]; rfl
  · have hlt : j < (Lib.bytesCells w e s).size := by
      simp [Lib.bytesCells]; omega
    simp [World.frozen?, Lib.bytesWorld_at_new]
    omega
theorem Bytes.conv_below (w : World) (e : TypeId) (s : ByteArray) : Below w.heap.size w (Lib.bytesWorld w e s) :=
  ⟨rfl, rfl, rfl, by rw [Lib.bytesWorld_size]; omega, fun j hj => Lib.bytesWorld_at_old w _ s j hj⟩
theorem Bytes.text {P : Program} {src dst e : TypeId} (h : Bytes w g l) (hs : P.underlying src = some (.slice e)) (he : P.underlying e = some (.int .u8)) (hd : P.underlying dst = some .string) (n cap : Nat) (hn : l.length = n) :
    (convert src dst (.slice (some ⟨g, 0, none⟩) n cap)).run P w = .ok (.string ⟨l.toArray⟩) w := by
  subst hn
  refine run_convert_bytes_back w src dst e _ cap l hs he hd fun j hj => ?_
  have hplain : (⟨g, 0, none⟩ : Addr).add j = ⟨g, j, none⟩ := by unfold Addr.add; split <;> simp_all
  rw [hplain]; exact h.cell hj
end

end Go.Proofs.YtipajekehbpghaaGreatDoor

namespace Go.Proofs.YtipajekehbpghaaGreatDoor
open Go.RowKit

theorem foldl_set_size (l : List (Value × Nat)) (z : Array Value) : (l.foldl (fun cs x => cs.setIfInBounds x.2 x.1) z).size = z.size := by
  induction l generalizing z with
  | nil => rfl
  | cons x l ih => simp only [List.foldl_cons]; rw [ih]; simp

theorem foldl_set_get (l : List Value) : ∀ (n : Nat) (z : Array Value) (i : Nat), n + l.length ≤ z.size → ((l.zipIdx n).foldl (fun cs x => cs.setIfInBounds x.2 x.1) z)[i]? = if n ≤ i ∧ i < n + l.length then l[i - n]? else z[i]? := by
  induction l with
  | nil => intro n z i h; rw [if_neg (by simp only [List.length_nil]; omega)]; rfl
  | cons c l ih =>
    intro n z i h
    simp only [List.zipIdx_cons, List.foldl_cons]
    rw [ih (n + 1) _ i (by simp at h ⊢; omega)]
    simp only [List.length_cons] at h ⊢
    by_cases h1 : n + 1 ≤ i ∧ i < n + 1 + l.length
    · rw [if_pos h1, if_pos (by omega), show i - n = (i - (n + 1)) + 1 by omega, List.getElem?_cons_succ]
    · rw [if_neg h1, Array.getElem?_setIfInBounds]
      by_cases h2 : n = i
      · subst h2
        rw [if_pos rfl, if_pos (by omega), if_pos (by omega), Nat.sub_self]; rfl
      · rw [if_neg h2, if_neg (by omega)]

theorem fill_one (cs z : Array Value) (size : Nat) (hs : cs.size = size) (hz : z.size = cs.size) : Instr.fill (fun i => some (i * size, size)) z [(0, .agg cs)] = some cs := by
  have h1 : (Value.agg cs).cells.size = size := hs
  simp only [Instr.fill]
  rw [if_neg (by simp [Value.cells, hs, hz])]
  congr 1
  apply Array.ext_getElem?
  intro i
  have e : (Value.agg cs).cells.zipIdx.foldl (fun (acc : Array Value) (x : Value × Nat) => acc.setIfInBounds (0 * size + x.2) x.1) z = (cs.toList.zipIdx 0).foldl (fun acc x => acc.setIfInBounds x.2 x.1) z := by
    rw [← Array.foldl_toList, Array.toList_zipIdx]
    simp [Value.cells]
  refine (congrArg (fun a : Array Value => a[i]?) e).trans ?_
  show ((cs.toList.zipIdx 0).foldl (fun acc x => acc.setIfInBounds x.2 x.1) z)[i]? = cs[i]?
  rw [foldl_set_get _ _ _ _ (by simp; omega)]
  simp only [Array.length_toList, Nat.zero_add, Nat.zero_le, true_and, Nat.sub_zero, Array.getElem?_toList]
  by_cases h : i < cs.size
  · rw [if_pos h]
  · rw [if_neg h, Array.getElem?_eq_none (by omega), Array.getElem?_eq_none (by omega)]

theorem run_buildSlice_one {P : Program} (w : World) (t e : TypeId) (cs z : Array Value) (ht : P.underlying t = some (.slice e)) (hi : (P.info? e).map (·.size) = some cs.size) (hz : (zeroValue e).run P w = .ok (.agg z) w)
    (hp : 0 < cs.size) (hm : cs.size ≤ 1000000) :
    (Instr.buildSlice t 1 #[(0, .agg cs)]).run P w = .ok (.slice (some ⟨w.heap.size, 0, none⟩) 1 1) (w.alloc (.cells cs e)) := by
  cases hq : P.info? e with
  | none => simp [hq] at hi
  | some i =>
    have hs : i.size = cs.size := by simpa [hq] using hi
    have hf := fill_one cs ((Array.range (1 * i.size)).map (z[· % z.size]!)) i.size hs.symm (by simp [hs])
    simp only [Nat.one_mul] at hf
    have hn : ¬ i.size > 2 ^ 24 := by omega
    have hn0 : ¬ i.size = 0 := by omega
    simp [Instr.buildSlice, run_underlying ht, sizeOf, typeInfo, hq, hn0, hz, Value.cells, hf, newRow]
    omega

theorem wpList_buildSlice_one {P : Program} {ops : Array Oper} {rest : List Oper} {o : Oper} {a : Act} {w : World} {Q : Exit → Act → World → Prop} (hgd : o.guard = none) (t e : TypeId) (x : Operand)
    (ho : o.op = .buildSlice t 1 #[(0, x)]) (cs z : Array Value) (hx : a.eval x = .agg cs) (ht : P.underlying t = some (.slice e)) (hi : (P.info? e).map (·.size) = some cs.size) (hz : (zeroValue e).run P w = .ok (.agg z) w)
    (hp : 0 < cs.size) (hm : cs.size ≤ 1000000)
    (h : wpList P ops Q rest (a.put o.dst (.slice (some ⟨w.heap.size, 0, none⟩) 1 1)) (w.alloc (.cells cs e))) : wpList P ops Q (o :: rest) a w :=
  wpList_plain hgd fun _ hK => by
    unfold Oper.wp execOp
    have hr := run_buildSlice_one (P := P) w t e cs z ht hi hz hp hm
    simp only [ho, List.map_toArray, List.map_cons, List.map_nil, hx, Sem.run_bind, Sem.run_pure, hr, Result.andThen_ok]
    exact hK _ _ h

/-- A row of n cells told by a function. -/
def rowArr (n : Nat) (f : Nat → Value) : Array Value := ((List.range n).map f).toArray
theorem rowArr_size (n : Nat) (f : Nat → Value) : (rowArr n f).size = n := by simp [rowArr]
theorem rowArr_at (n : Nat) (f : Nat → Value) (i : Nat) (h : i < n) : (rowArr n f)[i]? = some (f i) := by simp [rowArr, h]
theorem rowArr_set (n : Nat) (f g : Nat → Value) (i : Nat) (v : Value) (hg : ∀ x, x < n → g x = if x = i then v else f x) : (rowArr n f).setIfInBounds i v = rowArr n g := by
  apply Array.ext_getElem?
  intro j
  rw [Array.getElem?_setIfInBounds]
  by_cases hj : j < n
  · rw [rowArr_at n g j hj, hg j hj, rowArr_size]
    by_cases h : i = j
    · subst h; rw [if_pos rfl, if_pos hj, if_pos rfl]
    · rw [if_neg h, if_neg (fun e => h e.symm), rowArr_at n f j hj]
  · rw [Array.getElem?_eq_none (by rw [rowArr_size]; omega : (rowArr n g).size ≤ j)]
    split
    · rw [if_neg (by rw [rowArr_size]; omega)]
    · rw [Array.getElem?_eq_none (by rw [rowArr_size]; omega)]
theorem rowArr_ext {n : Nat} {f g : Nat → Value} (h : ∀ x, x < n → f x = g x) : rowArr n f = rowArr n g := by
  unfold rowArr; congr 1; exact List.map_congr_left fun x hx => h x (by simpa using hx)
theorem madeCells_one (z : Value) (n : Nat) : madeCells #[z] n = rowArr n (fun _ => z) := by
  apply Array.ext_getElem?
  intro i
  by_cases h : i < n
  · rw [rowArr_at n _ i h]; simp [madeCells, h, Nat.mod_one]
  · rw [Array.getElem?_eq_none (by rw [size_madeCells]; omega), Array.getElem?_eq_none (by rw [rowArr_size]; omega)]

/-- make([]T, n) of one-cell elements, as the walk meets it. -/
theorem run_make_one {P : Program} (t e : TypeId) (z : Value) (bytes : Nat) (ht : P.underlying t = some (.slice e)) (hinfo : (P.info? e).map (fun i => (i.zero, i.size, i.bytes)) = some (some z, 1, bytes)) (hc : z.cells = #[z])
    (n : Nat) (q : Int) (hq : q = n) (hb : n * bytes ≤ 281474976710656) (h63 : n ≤ 9223372036854775807) (w : World) :
    (Instr.makeSlice t (.int .i64 q) (.int .i64 q)).run P w = .ok (.slice (some ⟨w.heap.size, 0, none⟩) n n) (w.alloc (.cells (rowArr n (fun _ => z)) e)) := by
  subst hq
  obtain ⟨i, hi, hz, hs, hby⟩ := info_parts hinfo
  have hr := run_make (P := P) w t e i z ht hi hz .i64 .i64 (n : Int) (n : Int) (by omega) (by omega) (by
    rw [hby, Int.mul_comm, ← Int.natCast_mul]; omega) (by omega)
  rw [hr, hc, hs]
  simp only [Int.toNat_natCast, Nat.mul_one, madeCells_one]

end Go.Proofs.YtipajekehbpghaaGreatDoor

namespace Go.Proofs.YtipajekehbpghaaGreatDoor
open Go.RowKit

/-- bytes d laid over l from place a on -/
def over (l : List UInt8) (a : Nat) (d : List UInt8) : List UInt8 := l.take a ++ d ++ l.drop (a + d.length)
theorem over_len (l : List UInt8) (a : Nat) (d : List UInt8) (h : a + d.length ≤ l.length) : (over l a d).length = l.length := by
  unfold over; simp only [List.length_append, List.length_take, List.length_drop]; omega
theorem over_get (b : List UInt8) (a : Nat) (d : List UInt8) (h : a + d.length ≤ b.length) (i : Nat) : (over b a d)[i]? = if a ≤ i ∧ i < a + d.length then d[i - a]? else b[i]? := by
  unfold over
  have la : (b.take a).length = a := by rw [List.length_take]; omega
  by_cases h1 : i < a
  · rw [if_neg (by omega), List.append_assoc, List.getElem?_append_left (by omega), List.getElem?_take, if_pos h1]
  · rw [List.append_assoc, List.getElem?_append_right (by omega), la]
    by_cases h2 : i < a + d.length
    · rw [if_pos (by omega), List.getElem?_append_left (by omega)]
    · rw [if_neg (by omega), List.getElem?_append_right (by omega), List.getElem?_drop]
      congr 1; omega

def textCells (t : ByteArray) : List Value := t.data.toList.map fun x => Value.int .u8 (x.toNat : Int)
theorem Bytes.get? {w : World} {g : Nat} {l : List UInt8} (h : Bytes w g l) {j : Nat} {c : UInt8} (hj : l[j]? = some c) : w.cell? ⟨g, j, none⟩ = some (.int .u8 (c.toNat : Int)) := by
  obtain ⟨hlt, e⟩ := List.getElem?_eq_some_iff.1 hj
  rw [← e]; exact h.cell hlt
theorem Bytes.copied {w : World} {g : Nat} {l : List UInt8} (h : Bytes w g l) (a : Nat) (t : ByteArray) (hat : a + t.size ≤ l.length) : Bytes (w.setCells g a (textCells t)) g (over l a t.data.toList) := fun j hj => by
  have hl : t.data.toList.length = t.size := by simp
  have hlen : (textCells t).length = t.size := by simp [textCells]
  have hol := over_len l a t.data.toList (by omega)
  refine ⟨?_, by rw [World.frozen?_setCells]; exact h.frozen (by omega)⟩
  have hg := over_get l a t.data.toList (by omega) j
  rw [List.getElem?_eq_getElem hj] at hg
  by_cases hin : a ≤ j ∧ j < a + t.data.toList.length
  · rw [if_pos hin] at hg
    have hlt : j - a < (textCells t).length := by omega
    have := World.cell?_setCells_in g (textCells t) a w (fun i hi => by rw [h.cell (j := a + i) (by omega)]; rfl) (j - a) hlt
    rw [show a + (j - a) = j by omega] at this
    rw [this]
    congr 1
    have h2 : (textCells t)[j - a]? = (t.data.toList[j - a]?).map fun x => Value.int .u8 (x.toNat : Int) := by simp [textCells]
    rw [List.getElem?_eq_getElem hlt, ← hg] at h2
    exact Option.some.inj h2
  · rw [if_neg hin] at hg
    rw [World.cell?_setCells_out g (textCells t) a w ⟨g, j, none⟩ (fun _ _ => by show j < a ∨ a + (textCells t).length ≤ j; omega)]
    exact h.get? hg.symm
theorem below_setCells {B : Nat} {a w : World} (h : Below B a w) (g : Nat) (hg : B ≤ g) (vs : List Value) : ∀ o, Below B a (w.setCells g o vs) := by
  induction vs generalizing w with
  | nil => intro o; exact h
  | cons v vs ih => intro o; exact ih (h.setCell hg _) (o + 1)
theorem size_setCells (g : Nat) (vs : List Value) : ∀ (w : World) (o : Nat), (w.setCells g o vs).heap.size = w.heap.size := by
  induction vs with
  | nil => intro w o; rfl
  | cons v vs ih => intro w o; rw [World.setCells, ih]; simp [World.setCell]
theorem Bytes.farCells {w : World} {g : Nat} {l : List UInt8} (h : Bytes w g l) {k : Nat} (hk : g ≠ k) (vs : List Value) : ∀ o, Bytes (w.setCells k o vs) g l := by
  induction vs generalizing w with
  | nil => intro o; exact h
  | cons v vs ih => intro o; exact ih (h.far hk _) (o + 1)

end Go.Proofs.YtipajekehbpghaaGreatDoor

namespace Go.Proofs.YtipajekehbpghaaGreatDoor
open Go.RowKit
structure Halted (p : Prop) : Prop where
  go : p
theorem halt_at (n : Nat) {P : Program} {ops : Array Oper} {d : Bool} {Q : Exit → Act → World → Prop} {a : Act} {w : World} (h : Halted (Code.wp P (.region n ops d) Q a w)) : Code.wp P (.region n ops d) Q a w := h.go
end Go.Proofs.YtipajekehbpghaaGreatDoor

namespace Go.Proofs.YtipajekehbpghaaGreatDoor

/-- May these operations be taken first, one behind the other, each one skipped? kn: what the guards are known to yield. -/
def skipsOk (md : Region.Mode) (ops : Array Oper) : List Nat → List (Nat × Option Bool) → Array Bool → Bool
  | [], _, _ => true
  | i :: r, kn, listed =>
    (match ops[i]? with
      | some o => (match o.guard with
          | some (g, want) => kn.any fun p => p.1 == g && p.2 != some want
          | none => false) &&
        kn.all fun p => o.dst.isNone || (ops[p.1]?).bind (·.dst) != o.dst
      | none => false) &&
    Region.free md ops listed i && (Region.ready md ops listed).contains i && skipsOk md ops r ((i, none) :: kn) (listed.setIfInBounds i true)

theorem yielded_put_ne {ops : Array Oper} {a : Act} {d : Option Tmp} {v : Value} {j : Nat} (h : d.isNone = true ∨ (ops[j]?).bind (·.dst) ≠ d) : yielded ops (a.put d v).tmps j = yielded ops a.tmps j := by
  cases d with
  | none => rfl
  | some d =>
    have h' : (ops[j]?).bind (·.dst) ≠ some d := h.resolve_left (by simp)
    unfold yielded
    cases ht : (ops[j]?).bind (·.dst) with
    | none => rfl
    | some t =>
      rw [ht] at h'
      have hne : d ≠ t := fun e => h' (by rw [e])
      simp [Act.put, Array.getElem?_setIfInBounds_ne hne]
theorem yielded_put_undef {ops : Array Oper} {a : Act} {j : Nat} {o : Oper} (h : ops[j]? = some o) : yielded ops (a.put o.dst undef).tmps j = none := by
  unfold yielded
  rw [h]
  cases hd : o.dst with
  | none => simp [hd]
  | some d =>
    simp only [Option.bind_some, hd, Act.put]
    by_cases hlt : d < a.tmps.size
    · simp [hlt, undef]
    · simp [hlt]

theorem wpAny_skips {P : Program} {md : Region.Mode} {ops : Array Oper} {Q : Exit → Act → World → Prop} {w : World} (hs : Region.noSelect ops = true) (hQ : ∀ c a d v w, Q (.panic c) (a.put d v) w → Q (.panic c) a w) :
    ∀ (is : List Nat) (kn : List (Nat × Option Bool)) (fuel : Nat) (listed : Array Bool) (a : Act), (∀ p ∈ kn, yielded ops a.tmps p.1 = p.2) → skipsOk md ops is kn listed = true →
      wpAny P md ops Q fuel (is.foldl (fun l i => l.setIfInBounds i true) listed) ((is.map fun i => (ops[i]?).bind (·.dst)).foldl (fun a d => a.put d undef) a) w → wpAny P md ops Q (fuel + is.length) listed a w
  | [], _, _, _, _, _, _, h => h
  | i :: r, kn, fuel, listed, a, hk, hok, h => by
    unfold skipsOk at hok
    simp only [Bool.and_eq_true] at hok
    obtain ⟨⟨⟨h1, h2⟩, h3⟩, h4⟩ := hok
    cases ho : ops[i]? with
    | none => rw [ho] at h1; cases h1
    | some o =>
      rw [ho] at h1
      simp only [Bool.and_eq_true] at h1
      obtain ⟨h5, h6⟩ := h1
      have hd : (ops[i]?).bind (·.dst) = o.dst := by rw [ho]; rfl
      rw [List.map_cons, List.foldl_cons, List.foldl_cons, hd] at h
      have hw : Region.wanted o (yielded ops a.tmps) = false := by
        unfold Region.wanted
        cases hg : o.guard with
        | none => rw [hg] at h5; cases h5
        | some gw =>
          obtain ⟨g, want⟩ := gw
          rw [hg] at h5
          simp only at h5 ⊢
          obtain ⟨p, hp, hpp⟩ := List.any_eq_true.1 h5
          simp only [Bool.and_eq_true, beq_iff_eq, bne_iff_ne] at hpp
          rw [← hpp.1, hk p hp, beq_eq_false_iff_ne]
          exact hpp.2
      refine wpAny_take (fuel := fuel + r.length) (i := i) (oi := o) (v := undef) ho hs h2 h3 (fun c a w => hQ c a _ _ w) (Or.inr ⟨hw, rfl⟩) ?_
      refine wpAny_skips hs hQ r ((i, none) :: kn) fuel _ _ ?_ h4 h
      intro p hp
      rcases List.mem_cons.1 hp with rfl | hp
      · exact yielded_put_undef ho
      · rw [yielded_put_ne, hk p hp]
        have := List.all_eq_true.1 h6 p hp
        simp only [Bool.or_eq_true, bne_iff_ne] at this
        exact this

/-- The same, with the results told. -/
theorem wpAny_skips_of {P : Program} {md : Region.Mode} {ops : Array Oper} {Q : Exit → Act → World → Prop} {w : World} {fuel fuel' : Nat} {listed listed' : Array Bool} {a : Act} (is : List Nat) (kn : List (Nat × Option Bool)) {ds : List (Option Tmp)}
    (hs : Region.noSelect ops = true) (hok : skipsOk md ops is kn listed = true) (hl : is.foldl (fun l i => l.setIfInBounds i true) listed = listed') (hds : (is.map fun i => (ops[i]?).bind (·.dst)) = ds) (hf : fuel' = fuel + is.length)
    (hQ : ∀ c a d v w, Q (.panic c) (a.put d v) w → Q (.panic c) a w) (hk : ∀ p ∈ kn, yielded ops a.tmps p.1 = p.2)
    (h : wpAny P md ops Q fuel listed' (ds.foldl (fun a d => a.put d undef) a) w) : wpAny P md ops Q fuel' listed a w := by
  subst hl hds hf
  exact wpAny_skips hs hQ is kn fuel listed a hk hok h

end Go.Proofs.YtipajekehbpghaaGreatDoor
