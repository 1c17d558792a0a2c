/-
  Maps in memory, nil or made, by what they hold at each key.
-/
import Derived.Test.YtehooifcgfkngaaDoorMapF
namespace Go.Proofs.YtehooifcgfkngaaDoor
open Go.RowKit Go.Maps

section
variable {P : Program} {K : TypeId} {w w' : World} {n : Nat} {f : Lit → Option Value} {o : Option Nat}

/-- The map value of block o (none: nil) has n entries, and f says what it holds at each key. -/
def MapO (w : World) (P : Program) (K : TypeId) (o : Option Nat) (f : Lit → Option Value) (n : Nat) : Prop :=
  match o with
  | none => n = 0 ∧ ∀ k, WideAt.IsKeyLit k → f k = none
  | some b => MapF w P K b f n

theorem MapO.lt (h : MapO w P K o f n) : ∀ b, o = some b → b < w.heap.size := by
  rintro b rfl; exact MapF.lt h
theorem MapO.kept (h : MapO w P K o f n) (hs : w.heap.size ≤ w'.heap.size) (hb : ∀ b, o = some b → w'.heap[b]? = w.heap[b]?) : MapO w' P K o f n := by
  cases o with
  | none => exact h
  | some b => exact MapF.same_block h (hb b rfl)
theorem MapO.congr {g : Lit → Option Value} (h : MapO w P K o f n) (hg : ∀ k, WideAt.IsKeyLit k → f k = g k) : MapO w P K o g n := by
  cases o with
  | none => exact ⟨h.1, fun k hk => (hg k hk).symm.trans (h.2 k hk)⟩
  | some b => exact MapF.congr h hg
theorem MapO.below (h : MapO w P K o f n) (hb : Below w.heap.size w w') : MapO w' P K o f n := h.kept hb.size fun b e => hb.block b (h.lt b e)
theorem MapO.drew (h : MapO w P K o f n) : MapO w.drew P K o f n := by
  cases o with
  | none => exact h
  | some b => exact MapF.drew h
theorem MapO.alloc (h : MapO w P K o f n) (x : Obj) : MapO (w.alloc x) P K o f n := by
  cases o with
  | none => exact h
  | some b => exact MapF.alloc h x

/-- 'm[k]'. -/
theorem MapO.look {t e : TypeId} (h : MapO w P K o f n) (L : Keyed P K) (ht : P.underlying t = some (.map K e)) {z : Value} (hz : ∀ w, (zeroValue e).run P w = .ok z w) {key : Value} {kl : Lit} (hkey : keyOf P K key = some kl) {r : Option Value} (hr : f kl = r) :
    (Instr.lookup t (.map o) key false).run P w = .ok (r.getD z) w := by
  cases o with
  | none =>
    rw [h.2 kl (L.key hkey)] at hr
    subst hr
    simpa using Maps.look_nil false L ht (hz w) hkey
  | some b => exact MapF.look h L ht hz hkey hr
theorem MapO.look_ok {t e : TypeId} (h : MapO w P K o f n) (L : Keyed P K) (ht : P.underlying t = some (.map K e)) {z : Value} (hz : ∀ w, (zeroValue e).run P w = .ok z w) {key : Value} {kl : Lit} (hkey : keyOf P K key = some kl) {r : Option Value} (hr : f kl = r) :
    (Instr.lookup t (.map o) key true).run P w = .ok (.tuple #[r.getD z, .bool r.isSome]) w := by
  cases o with
  | none =>
    rw [h.2 kl (L.key hkey)] at hr
    subst hr
    simpa using Maps.look_nil true L ht (hz w) hkey
  | some b => exact MapF.look_ok h L ht hz hkey hr
theorem MapO.len {t e : TypeId} (h : MapO w P K o f n) (ht : P.underlying t = some (.map K e)) (ty : TypeId) : (Builtin.len_ #[t] ty #[.map o]).run P w = .ok (.int .i64 n) w := by
  cases o with
  | none => rw [h.1]; exact Maps.len_nil ht ty
  | some b => exact MapF.len h ht ty

variable {ops : Array Oper} {rest : List Oper} {op : Oper} {a : Act} {Q : Exit → Act → World → Prop}

theorem wpList_o_look (hg : op.guard = none) (m x : Operand) (t : TypeId) (hop : op.op = Op.lookup t m x false) (e : TypeId) (L : Keyed P K) (ht : P.underlying t = some (.map K e)) {z : Value} (hz : ∀ w, (zeroValue e).run P w = .ok z w)
    (hown : MapO w P K o f n) (hm : a.eval m = .map o) (key : Value) (kl : Lit) (hx : a.eval x = key) (hkey : keyOf P K key = some kl) (r : Option Value) (hr : f kl = r)
    (hK : wpList P ops Q rest (a.put op.dst (r.getD z)) w) : wpList P ops Q (op :: rest) a w := by
  refine wpList_plain hg fun K' hK' => ?_
  unfold Oper.wp
  simp [execOp, hop, hm, hx, hown.look L ht hz hkey hr, Result.andThen]
  exact hK' _ _ hK
theorem wpList_o_look_ok (hg : op.guard = none) (m x : Operand) (t : TypeId) (hop : op.op = Op.lookup t m x true) (e : TypeId) (L : Keyed P K) (ht : P.underlying t = some (.map K e)) {z : Value} (hz : ∀ w, (zeroValue e).run P w = .ok z w)
    (hown : MapO w P K o f n) (hm : a.eval m = .map o) (key : Value) (kl : Lit) (hx : a.eval x = key) (hkey : keyOf P K key = some kl) (r : Option Value) (hr : f kl = r)
    (hK : wpList P ops Q rest (a.put op.dst (.tuple #[r.getD z, .bool r.isSome])) w) : wpList P ops Q (op :: rest) a w := by
  refine wpList_plain hg fun K' hK' => ?_
  unfold Oper.wp
  simp [execOp, hop, hm, hx, hown.look_ok L ht hz hkey hr, Result.andThen]
  exact hK' _ _ hK
theorem wpList_o_len (hg : op.guard = none) (m : Operand) (t : TypeId) (hop : op.op = Op.call { callee := Callee.builtin Builtin.len, args := #[m], argTypes := #[t] }) (e : TypeId) (ht : P.underlying t = some (.map K e))
    (hown : MapO w P K o f n) (hm : a.eval m = .map o) (hK : wpList P ops Q rest (a.put op.dst (.int .i64 n)) w) : wpList P ops Q (op :: rest) a w := by
  refine wpList_plain hg fun K' hK' => ?_
  unfold Oper.wp
  simp [execOp, hop, resolve, invoke, builtin, hm, hown.len ht op.type, Result.andThen]
  exact hK' _ _ hK

/-! Ranging. -/
/-- 'range m' under way, m nil or made. -/
def RangeO (w : World) (P : Program) (K : TypeId) (o : Option Nat) (r : Nat) (f : Lit → Option Value) (n : Nat) (ds : List (Lit × Value)) (cnt : Nat) : Prop :=
  match o with
  | none => w.heap[r]? = some (.mapIter none 0 #[] 0) ∧ n = 0 ∧ (∀ k, WideAt.IsKeyLit k → f k = none) ∧ ds = [] ∧ cnt = 0
  | some b => RangeF w P K b r f n ds cnt
theorem RangeO.kept {r cnt : Nat} {ds : List (Lit × Value)} (h : RangeO w P K o r f n ds cnt) (hs : w.heap.size ≤ w'.heap.size) (hos : w'.os = w.os ∧ w'.tape = w.tape ∧ w'.output = w.output) (hb : ∀ b, o = some b ∨ b = r → w'.heap[b]? = w.heap[b]?) : RangeO w' P K o r f n ds cnt := by
  cases o with
  | none => exact ⟨(hb r (.inr rfl)).trans h.1, h.2⟩
  | some b =>
    obtain ⟨es, left, ⟨es2, clock, since, seen, c0, e1, F, e2, e3, e4, q⟩, q2⟩ := h
    exact ⟨es, left, ⟨es2, clock, since, seen, c0, (hb b (.inl rfl)).trans e1, F, e2, e3, (hb r (.inr rfl)).trans e4, q⟩, q2⟩
theorem RangeO.lt {r cnt : Nat} {ds : List (Lit × Value)} (h : RangeO w P K o r f n ds cnt) : r < w.heap.size := by
  cases o with
  | none => exact (Array.getElem?_eq_some_iff.1 h.1).1
  | some b => exact RangeF.ne h |>.2
theorem RangeO.mapO {r cnt : Nat} {ds : List (Lit × Value)} (h : RangeO w P K o r f n ds cnt) : MapO w P K o f n := by
  cases o with
  | none => exact ⟨h.2.1, h.2.2.1⟩
  | some b => exact RangeF.mapF h
theorem RangeO.below {r cnt : Nat} {ds : List (Lit × Value)} (h : RangeO w P K o r f n ds cnt) (hb : Below w.heap.size w w') : RangeO w' P K o r f n ds cnt :=
  h.kept hb.size ⟨hb.os, hb.tape, hb.output⟩ fun b e => hb.block b (by
    rcases e with e | rfl
    · exact h.mapO.lt b e
    · exact h.lt)
theorem run_next_nil {r : Nat} (h : w.heap[r]? = some (.mapIter none 0 #[] 0)) (ty : TypeId) : (Instr.next (.pointer (some ⟨r, 0, none⟩)) false ty).run P w = .ok (.tuple #[.bool false]) w := by
  have hg : (getObj r).run P w = .ok (.mapIter none 0 #[] 0) w := by simp [getObj, Sem.run, h]
  simp [Instr.next, hg, Result.andThen]

theorem wpList_o_range (hg : op.guard = none) (m : Operand) (t : TypeId) (hop : op.op = Op.range t m) (e : TypeId) (L : Keyed P K) (ht : P.underlying t = some (.map K e)) (hown : MapO w P K o f n) (hm : a.eval m = .map o)
    (hK : ∀ w', RangeO w' P K o w.heap.size f n [] n → Below w.heap.size w w' → w'.heap.size = w.heap.size + 1 → wpList P ops Q rest (a.put op.dst (.pointer (some ⟨w.heap.size, 0, none⟩))) w') : wpList P ops Q (op :: rest) a w := by
  cases o with
  | none =>
    refine wpList_plain hg fun K' hK' => ?_
    have hrun : (Instr.range t (.map none)).run P w = .ok (.pointer (some ⟨w.heap.size, 0, none⟩)) (w.alloc (.mapIter none 0 #[] 0)) := by
      simp [Instr.range, run_underlying ht, go_sem, Result.andThen]
    unfold Oper.wp
    simp [execOp, hop, hm, hrun, Result.andThen]
    refine hK' _ _ (hK _ ⟨heap_alloc_new _ _, hown.1, hown.2, rfl, hown.1⟩ ((Below.refl _ _).alloc (Nat.le_refl _) _) (by simp))
  | some b => exact wpList_f_range hg m t hop e L ht hown hm hK

theorem wpList_o_next (hg : op.guard = none) (it : Operand) (hop : op.op = Op.next it false) (L : Keyed P K) {r cnt : Nat} {ds : List (Lit × Value)} (h : RangeO w P K o r f n ds cnt) (hit : a.eval it = .pointer (some ⟨r, 0, none⟩))
    (hDone : cnt = 0 → Whole f ds → wpList P ops Q rest (a.put op.dst (.tuple #[.bool false])) w)
    (hMore : ∀ (key v : Value) (kl : Lit) (w' : World) (cnt' : Nat), keyOf P K key = some kl → f kl = some v → (kl ∉ ds.map (·.1)) → RangeO w' P K o r f n (ds ++ [(kl, v)]) cnt' → cnt' < cnt →
      w.grownBy w' (some r) → w'.heap.size = w.heap.size → (Instr.entry (.pointer (some ⟨r, 0, none⟩))).run P w' = .ok (.tuple #[key, v]) w' → wpList P ops Q rest (a.put op.dst (.tuple #[.bool true, key, v])) w') : wpList P ops Q (op :: rest) a w := by
  cases o with
  | none =>
    refine wpList_plain hg fun K' hK' => ?_
    obtain ⟨h1, h2, h3, rfl, h5⟩ := h
    have hrun := run_next_nil (P := P) h1 op.type
    unfold Oper.wp
    simp [execOp, hop, hit, hrun, Result.andThen]
    exact hK' _ _ (hDone h5 ⟨List.Pairwise.nil, fun p hp => (by cases hp), fun k hk v hv => (by rw [h3 k hk] at hv; cases hv)⟩)
  | some b => exact wpList_f_next hg it hop L h hit hDone hMore
end

end Go.Proofs.YtehooifcgfkngaaDoor
