/-
  One block of the caller that a call writes; pieces in a row that the call owns; a reader in memory.
-/
import Derived.Test.YtkhkjacnoiopcaaGreatDoorZag
import Derived.Test.YtkhkjacnoiopcaaGreatDoorZah
import Derived.Test.YtkhkjacnoiopcaaGreatDoorZaj
set_option linter.unusedVariables false
set_option linter.unusedSimpArgs false

set_option linter.unusedVariables false
set_option linter.unusedSimpArgs false
namespace Go.Proofs.YtkhkjacnoiopcaaGreatDoor
open Go.RowKit Tre Pk

/-- Whatever lay below B, but block E, lies as it lay. -/
structure KeepE (E B : Nat) (w w' : World) : Prop where
  os : w'.os = w.os
  tape : w'.tape = w.tape
  output : w'.output = w.output
  size : w.heap.size ≤ w'.heap.size
  block : ∀ k, k < B → k ≠ E → w'.heap[k]? = w.heap[k]?
theorem KeepE.refl (E B : Nat) (w : World) : KeepE E B w w := ⟨rfl, rfl, rfl, Nat.le_refl _, fun _ _ _ => rfl⟩
theorem KeepE.trans {E B : Nat} {a b c : World} (h : KeepE E B a b) (k : KeepE E B b c) : KeepE E B a c :=
  ⟨k.os.trans h.os, k.tape.trans h.tape, k.output.trans h.output, Nat.le_trans h.size k.size, fun i hi hn => (k.block i hi hn).trans (h.block i hi hn)⟩
theorem KeepE.of {E B : Nat} {a b : World} (h : Below B a b) : KeepE E B a b := ⟨h.os, h.tape, h.output, h.size, fun i hi _ => h.block i hi⟩
theorem KeepE.mono {E B D : Nat} {a b : World} (h : KeepE E B a b) (hD : D ≤ B) : KeepE E D a b := ⟨h.os, h.tape, h.output, h.size, fun i hi hn => h.block i (by omega) hn⟩
theorem KeepE.below {E B : Nat} {a b : World} (h : KeepE E B a b) (hE : B ≤ E) : Below B a b := ⟨h.os, h.tape, h.output, h.size, fun i hi => h.block i hi (by omega)⟩
theorem KeepE.then {E B : Nat} {a b c : World} (h : KeepE E B a b) (k : Below b.heap.size b c) (hB : B ≤ b.heap.size) : KeepE E B a c := h.trans (KeepE.of (k.mono hB))
theorem KeepE.step {E B : Nat} {a b c : World} (h : KeepE E B a b) (k : KeepE E b.heap.size b c) (hB : B ≤ b.heap.size) : KeepE E B a c := h.trans (k.mono hB)
theorem KeepE.set_ {E B : Nat} {a b : World} (h : KeepE E B a b) (i : Nat) (v : Value) : KeepE E B a (b.setCell ⟨E, i, none⟩ v) := by
  have h1 := (Below.refl 0 b).setCell (p := ⟨E, i, none⟩) (Nat.zero_le _) v
  exact ⟨h1.os.trans h.os, h1.tape.trans h.tape, h1.output.trans h.output, Nat.le_trans h.size h1.size, fun k hk hn => (Below.heap_setCell b ⟨E, i, none⟩ v k hn).trans (h.block k hk hn)⟩
theorem KeepE.alloc {E B : Nat} {a b : World} (h : KeepE E B a b) (hB : B ≤ b.heap.size) (o : Obj) : KeepE E B a (b.alloc o) := h.trans (KeepE.of ((Below.refl B b).alloc hB o))
theorem KeepE.drew {E B : Nat} {a b : World} (h : KeepE E B a b) : KeepE E B a b.drew := h.trans (KeepE.of (Below.refl B b).drew)
theorem KeepE.drewN {E B : Nat} {a b : World} (h : KeepE E B a b) (n : Nat) : KeepE E B a (b.drewN n) := h.trans (KeepE.of (below_drewN (Below.refl B b) n))
theorem KeepE.grown {E B : Nat} {a b c : World} {row : Option Nat} (h : KeepE E B a b) (hg : b.grownBy c row) (hB : B ≤ b.heap.size) (hr : ∀ k, row = some k → B ≤ k ∨ k = E) : KeepE E B a c :=
  h.trans ⟨hg.os, hg.tape, hg.output, hg.size, fun i hi hn => hg.block i (by omega) (fun e => by rcases hr i e.symm with h1 | h1 <;> omega)⟩
theorem Blk.keepE {w w' : World} {E B g : Nat} {t : TypeId} {cs : Array Value} (h : Blk w g t cs) (k : KeepE E B w w') (hg : g < B) (hn : g ≠ E) : Blk w' g t cs := (k.block g hg hn).trans h
theorem KeepE.cell {E B : Nat} {a b : World} (h : KeepE E B a b) {p : Addr} (hp : p.block < B) (hn : p.block ≠ E) : b.cell? p = a.cell? p := by
  unfold World.cell?
  rw [h.block _ hp hn]

/-- A slice that does not lie in block E. -/
def offE (E : Nat) (v : Value) : Prop := ∀ b o n c, v = .slice (some ⟨b, o, none⟩) n c → b ≠ E
theorem offE_nil (E n c : Nat) : offE E (.slice none n c) := fun b o n c e => by cases e
theorem PairsIn.keep {w w' : World} {E : Nat} {v : Value} {l : List Px.Rec} (h : PairsIn w v l) (k : KeepE E w.heap.size w w') (ho : offE E v) : PairsIn w' v l := by
  obtain ⟨X, cap, e, h1, h2, h3, h4⟩ := h
  refine ⟨X, cap, e, h1, h2, h3, h4.imp id fun ⟨b, off, e1, e2, e3⟩ => ⟨b, off, e1, Nat.lt_of_lt_of_le e2 k.size, fun j hj => ?_⟩⟩
  subst e1
  have hn : b ≠ E := ho b off _ _ e
  obtain ⟨c0, c1⟩ := e3 j hj
  exact ⟨(k.cell (p := ⟨b, off + j * 2, none⟩) e2 hn).trans c0, (k.cell (p := ⟨b, off + j * 2 + 1, none⟩) e2 hn).trans c1⟩

/-- The cells of pieces. -/
def icCells (l : List (Int × Int)) : List Value := l.flatMap fun p => [.int .i64 p.1, .int .i64 p.2]
theorem icCells_get (l : List (Int × Int)) (i : Nat) (hi : i < l.length) : (icCells l)[i * 2]? = some (.int .i64 l[i].1) ∧ (icCells l)[i * 2 + 1]? = some (.int .i64 l[i].2) := by
  induction l generalizing i with
  | nil => simp at hi
  | cons p l ih =>
    cases i with
    | zero => exact ⟨rfl, rfl⟩
    | succ i =>
      have := ih i (by simpa using hi)
      rw [show (i + 1) * 2 = i * 2 + 2 by omega]
      exact this
/-- A slice of pieces that the call owns. -/
def OwnI (w : World) (B : Nat) (v : Value) (l : List (Int × Int)) : Prop := w.ownsRow B 79 2 v l.length (icCells l)
theorem OwnI.nil (w : World) (B : Nat) : OwnI w B (.slice none 0 0) [] := World.ownsRow_nil _ _ _ _
theorem OwnI.pcs {w : World} {B : Nat} {v : Value} {l : List (Int × Int)} (h : OwnI w B v l) : Pcs w v l := by
  obtain ⟨_, hw⟩ := h
  rcases hw with ⟨rfl, h0⟩ | ⟨g, cap, cur, rfl, _, hg, _, _, _, ht⟩
  · exact ⟨none, 0, by rw [h0], fun j hj => absurd hj (by omega)⟩
  · refine ⟨some ⟨g, 0, none⟩, cap, rfl, fun j hj => ⟨g, 0, rfl, (Array.getElem?_eq_some_iff.1 hg).1, ?_⟩⟩
    obtain ⟨c1, c2⟩ := icCells_get l j hj
    rw [← ht, List.getElem?_take] at c1 c2
    rw [if_pos (by omega), Array.getElem?_toList] at c1 c2
    rw [cell_of_row w g _ cur _ (0, 0) hg, cell_of_row w g _ cur _ (0, 0) hg, Nat.zero_add]
    exact ⟨c1, c2⟩
theorem OwnI.mono {w : World} {B B' : Nat} {v : Value} {l : List (Int × Int)} (h : OwnI w B v l) (hB : B' ≤ B) : OwnI w B' v l := by
  refine ⟨h.1, ?_⟩
  rcases h.2 with hn | ⟨g, cap, cur, e, hb, rest⟩
  · exact .inl hn
  · exact .inr ⟨g, cap, cur, e, by omega, rest⟩
theorem OwnI.later {w w' : World} {B : Nat} {v : Value} {l : List (Int × Int)} (h : OwnI w B v l) (hb : Below w.heap.size w w') : OwnI w' B v l :=
  World.ownsRow.kept h (only_of_below hb none) (by cases v.ownBlock <;> simp)
theorem OwnI.form {w : World} {B : Nat} {v : Value} {l : List (Int × Int)} (h : OwnI w B v l) : ∃ X cap, v = .slice X l.length cap := by
  rcases h.2 with ⟨rfl, h0⟩ | ⟨g, cap, cur, rfl, _⟩
  · exact ⟨none, 0, by rw [h0]⟩
  · exact ⟨_, cap, rfl⟩
/-- Cells of a member's block do not lie in a row of pieces. -/
theorem OwnI.set_ {w : World} {B E : Nat} {v : Value} {l : List (Int × Int)} {cs : Array Value} (h : OwnI w B v l) (hE : Blk w E 26 cs) (i : Nat) (u : Value) : OwnI (w.setCell ⟨E, i, none⟩ u) B v l := by
  refine ⟨h.1, ?_⟩
  rcases h.2 with hn | ⟨g, cap, cur, e, hb, hg, rest⟩
  · exact .inl hn
  · refine .inr ⟨g, cap, cur, e, hb, ?_, rest⟩
    have hne : g ≠ E := by
      rintro rfl
      rw [show w.heap[g]? = some (.cells cs 26 (0, 0)) from hE] at hg
      have := Option.some.inj hg
      injection this with _ e3
      exact absurd e3 (by decide)
    exact (Below.heap_setCell w ⟨E, i, none⟩ u g hne).trans hg
theorem Pcs.keep {w w' : World} {E : Nat} {v : Value} {l : List (Int × Int)} (h : Pcs w v l) (k : KeepE E w.heap.size w w') (ho : offE E v) : Pcs w' v l := by
  obtain ⟨A, cap, rfl, hr⟩ := h
  refine ⟨A, cap, rfl, fun j hj => ?_⟩
  obtain ⟨b, off, e, hb, c0, c1⟩ := hr j hj
  subst e
  have hn : b ≠ E := ho b off _ _ rfl
  exact ⟨b, off, rfl, Nat.lt_of_lt_of_le hb k.size, (k.cell (p := ⟨b, off + j * 2, none⟩) hb hn).trans c0, (k.cell (p := ⟨b, off + j * 2 + 1, none⟩) hb hn).trans c1⟩

/-- A reader in memory. -/
structure RdAt (W : World) (R : Nat) (s : Bl) (st : Rd) (ov gv : Value) : Prop where
  blk : Blk W R 85 #[.string (bs s), .int .i64 st.off, .string (bs (st.name.getD [])), .bool st.name.isSome, .string (bs (st.link.getD [])), .bool st.link.isSome, ov, gv]
  own : PairsIn W ov st.own
  glob : PairsIn W gv st.glob
  ooff : offE R ov
  goff : offE R gv
theorem RdAt.below {W W' : World} {R : Nat} {s : Bl} {st : Rd} {ov gv : Value} (h : RdAt W R s st ov gv) (hb : Below W.heap.size W W') : RdAt W' R s st ov gv :=
  ⟨h.blk.below hb h.blk.lt, h.own.below hb, h.glob.below hb, h.ooff, h.goff⟩

end Go.Proofs.YtkhkjacnoiopcaaGreatDoor
