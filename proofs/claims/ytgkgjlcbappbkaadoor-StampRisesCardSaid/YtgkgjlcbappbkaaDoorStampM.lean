/-
  Stores of rows of six, for StampRises.
-/
import Derived.Test.YtgkgjlcbappbkaaDoorStampH
import Derived.Deep.RegionHeld3
import Derived.Laws.Tables
import Derived.Laws.CopyOwn
namespace Go.Proofs.YtgkgjlcbappbkaaDoor
open Go.RowKit

theorem date_six (s : Int) : ∃ a0 a1 a2 a3 a4 a5 : Int, Cal.date s = [a0, a1, a2, a3, a4, a5] ∧ six s = .agg #[.int .i64 a0, .int .i64 a1, .int .i64 a2, .int .i64 a3, .int .i64 a4, .int .i64 a5] := ⟨_, _, _, _, _, _, rfl, rfl⟩

theorem keep_al1 {w0 W w' : World} {p : Addr} {v : Value} {o : Obj} (h : w0.cell? p = some v) (T : Below (W.alloc o).heap.size (W.alloc o) w') (e : w0.heap = W.heap) : w'.cell? p = some v := by
  have h1 : W.cell? p = some v := by unfold World.cell? at h ⊢; rw [← e]; exact h
  exact keep_cell T (keep_cell ((Below.refl _ W).alloc (Nat.le_refl _) o) h1)
theorem keep_al2 {w0 W w' : World} {p : Addr} {v : Value} {o o' : Obj} (h : w0.cell? p = some v) (T : Below ((W.alloc o).alloc o').heap.size ((W.alloc o).alloc o') w') (e : w0.heap = W.heap) : w'.cell? p = some v := by
  have h1 : W.cell? p = some v := by unfold World.cell? at h ⊢; rw [← e]; exact h
  exact keep_cell T (keep_cell (((Below.refl _ W).alloc (Nat.le_refl _) o).alloc (by simp) o') h1)
theorem keepS {w w' : World} {p0 p1 p2 p3 : Addr} {v0 v1 v2 v3 : Value} (h0 : w.cell? p0 = some v0) (h1 : w.cell? p1 = some v1) (h2 : w.cell? p2 = some v2) (h3 : w.cell? p3 = some v3) (hb : Below w.heap.size w w') :
    w'.cell? p0 = some v0 ∧ w'.cell? p1 = some v1 ∧ w'.cell? p2 = some v2 ∧ w'.cell? p3 = some v3 ∧ Below w.heap.size w w' := ⟨keep_cell hb h0, keep_cell hb h1, keep_cell hb h2, keep_cell hb h3, hb⟩
theorem below_drew {a w : World} (h : Below a.heap.size a w) : Below a.heap.size a w.drew := h.drew
theorem below_st {a w : World} {p : Addr} (h : Below a.heap.size a w) (hp : a.heap.size ≤ p.block) (v : Value) : Below a.heap.size a (w.setCell p v) := h.setCell hp v
theorem al1 {W w' : World} {T : TypeId} {cs : Array Value} (TT : Below (W.alloc (.cells cs T)).heap.size (W.alloc (.cells cs T)) w') : Blk w' W.heap.size T cs := (Blk.new W T cs).below TT (by simp)
theorem al2a {W w' : World} {T : TypeId} {cs : Array Value} {o : Obj} (TT : Below ((W.alloc (.cells cs T)).alloc o).heap.size ((W.alloc (.cells cs T)).alloc o) w') : Blk w' W.heap.size T cs := ((Blk.new W T cs).alloc o).below TT (by simp; omega)
theorem al2b {W w' : World} {T : TypeId} {cs : Array Value} {o : Obj} (TT : Below ((W.alloc o).alloc (.cells cs T)).heap.size ((W.alloc o).alloc (.cells cs T)) w') : Blk w' (W.heap.size + 1) T cs := by
  have h := (Blk.new (W.alloc o) T cs).below TT (by simp)
  rw [World.size_alloc] at h; exact h
theorem ca0 {W w' : World} {b : Nat} {T : TypeId} {cs : Array Value} (y : Blk W b T cs) (TT : Below W.heap.size W w') : Blk w' b T cs := y.below TT y.lt
theorem ca1 {W w' : World} {b : Nat} {T : TypeId} {cs : Array Value} {o : Obj} (y : Blk W b T cs) (TT : Below (W.alloc o).heap.size (W.alloc o) w') : Blk w' b T cs := (y.alloc o).below TT (y.alloc o).lt

theorem lt0 {W w' : World} (TT : Below W.heap.size W w') : W.heap.size ≤ w'.heap.size := TT.size
theorem lt1 {W w' : World} {o : Obj} (TT : Below (W.alloc o).heap.size (W.alloc o) w') : W.heap.size + 1 ≤ w'.heap.size := by have := TT.size; rwa [World.size_alloc] at this
theorem lt2 {W w' : World} {o o' : Obj} (TT : Below ((W.alloc o).alloc o').heap.size ((W.alloc o).alloc o') w') : W.heap.size + 2 ≤ w'.heap.size := by have := TT.size; rwa [World.size_alloc, World.size_alloc] at this

theorem st6 {P : Program} {W : World} {p : Nat} {T : TypeId} {cs V : Array Value} (h : Blk W p T cs) (hs : V.size = cs.size) (h1 : ∀ v ∈ V.toList, v.oneCell' = true) :
    ∃ W', (storeCells ⟨p, 0, none⟩ V.toList 0).run P W = .ok () W' ∧ Blk W' p T V ∧ (∀ (q : Nat) (T' : TypeId) (cs' : Array Value), q ≠ p → Blk W q T' cs' → Blk W' q T' cs') ∧ (∀ a : World, Below a.heap.size a W → a.heap.size ≤ p → Below a.heap.size a W') := by
  have hr := run_storeCells_from (P := P) p T V.toList 0 cs W h (by rw [Nat.zero_add]; simpa using hs) h1
  have e : (cs.toList.take 0 ++ V.toList).toArray = V := by simp
  rw [e] at hr
  exact ⟨_, hr, setRow_heap W p cs V T (0, 0) h, fun q T' cs' hq hb => (setRow_other W p q V hq).trans hb, fun a hb hp => below_setRow hb hp V⟩

/-- Two stores of a row each, whichever comes into which block. -/
theorem two6 {P : Program} {W a : World} {A B : Nat} {T : TypeId} {Z1 Z2 V1 V2 : Array Value} (hA : Blk W A T Z1) (hB : Blk W B T Z2) (hz1 : Z1.size = 6) (hz2 : Z2.size = 6) (hv1 : V1.size = 6) (hv2 : V2.size = 6)
    (o1 : ∀ v ∈ V1.toList, v.oneCell' = true) (o2 : ∀ v ∈ V2.toList, v.oneCell' = true) (hne : A ≠ B) (hb : Below a.heap.size a W) (hAa : a.heap.size ≤ A) (hBa : a.heap.size ≤ B) :
    ∃ W1 W2 W3 W4 : World, (storeCells ⟨A, 0, none⟩ V1.toList 0).run P W = .ok () W1 ∧ (storeCells ⟨B, 0, none⟩ V2.toList 0).run P W1 = .ok () W2 ∧ (storeCells ⟨B, 0, none⟩ V1.toList 0).run P W = .ok () W3 ∧ (storeCells ⟨A, 0, none⟩ V2.toList 0).run P W3 = .ok () W4 ∧
      Blk W2 A T V1 ∧ Blk W2 B T V2 ∧ Blk W4 B T V1 ∧ Blk W4 A T V2 ∧ Below a.heap.size a W1 ∧ Below a.heap.size a W2 ∧ Below a.heap.size a W3 ∧ Below a.heap.size a W4 := by
  obtain ⟨W1, r1, b1, k1, e1⟩ := st6 (P := P) hA (by rw [hv1, hz1]) o1
  obtain ⟨W2, r2, b2, k2, e2⟩ := st6 (P := P) (k1 B _ _ (Ne.symm hne) hB) (by rw [hv2, hz2]) o2
  obtain ⟨W3, r3, b3, k3, e3⟩ := st6 (P := P) hB (by rw [hv1, hz2]) o1
  obtain ⟨W4, r4, b4, k4, e4⟩ := st6 (P := P) (k3 A _ _ hne hA) (by rw [hv2, hz1]) o2
  exact ⟨W1, W2, W3, W4, r1, r2, r3, r4, k2 A _ _ hne b1, b2, k4 B _ _ (Ne.symm hne) b3, b4, e1 a hb hAa, e2 a (e1 a hb hAa) hBa, e3 a hb hBa, e4 a (e3 a hb hBa) hAa⟩

end Go.Proofs.YtgkgjlcbappbkaaDoor
