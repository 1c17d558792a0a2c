/-
  Maps in memory by what they hold at each key.
-/
import Derived.Test.YtehooifcgfkngaaDoorBase
import Derived.Maps.RangeWalk
import Derived.Maps.OwnSet
import Derived.StringKeys
import Derived.WalkSpells
import Derived.Laws.IdiomRangeMap
namespace Go.Proofs.YtehooifcgfkngaaDoor
open Go.RowKit Go.Maps

/-- An element as it is. -/
def rawE (v : Value) : Option (DataW Value × List MemPlace) := some (.held v, [])
theorem rawE_inv {v : Value} {y : DataW Value × List MemPlace} (h : rawE v = some y) : y.1 = .held v := by cases h; rfl
/-- What a map holds at a key. -/
def lookD (D : DataW Value) (k : Lit) : Option Value := match D.atKey k .nil with | .held v => some v | _ => none
def heldAll (es : List (Lit × DataW Value)) : Prop := ∀ p ∈ es, ∃ v, p.2 = .held v

theorem lookD_find (es : List (Lit × DataW Value)) (k : Lit) : lookD (.map es) k = (es.find? fun p => p.1.sameKey k).bind fun p => match p.2 with | .held v => some v | _ => none := by
  unfold lookD DataW.atKey
  cases h : es.find? fun p => p.1.sameKey k <;> simp [h]
theorem has_lookD {es : List (Lit × DataW Value)} (h : heldAll es) (k : Lit) : Maps.has (.map es) k = (lookD (.map es) k).isSome := by
  rw [lookD_find, Maps.has_eq]
  cases hf : es.find? fun p => p.1.sameKey k with
  | none =>
    have := List.find?_eq_none.1 hf
    simp only [Option.bind_none, Option.isSome_none]
    rw [List.any_eq_false]
    exact this
  | some p =>
    have h1 := List.find?_some hf
    obtain ⟨v, hv⟩ := h p (List.mem_of_find?_eq_some hf)
    simp only [Option.bind_some, hv, Option.isSome_some]
    exact List.any_eq_true.2 ⟨p, List.mem_of_find?_eq_some hf, h1⟩
theorem atKey_lookD {es : List (Lit × DataW Value)} (h : heldAll es) (k : Lit) (z : Value) : (DataW.map es).atKey k (.held z) = .held ((lookD (.map es) k).getD z) := by
  rw [lookD_find]
  unfold DataW.atKey
  cases hf : es.find? fun p => p.1.sameKey k with
  | none => simp [hf]
  | some p =>
    obtain ⟨v, hv⟩ := h p (List.mem_of_find?_eq_some hf)
    simp [hf, hv]

section
variable {P : Program} {K : TypeId} {w w' : World} {b n : Nat} {f : Lit → Option Value}

theorem held_of_own {D : DataW Value} (h : w.ownsMap P K rawE b n D) : ∃ es, D = .map es ∧ heldAll es := by
  obtain ⟨es, clock, hb, F, hs, rfl⟩ := h
  refine ⟨_, rfl, fun p hp => ?_⟩
  obtain ⟨x, hx, rfl⟩ := List.mem_map.1 (mem_sorted.1 hp)
  obtain ⟨y, hy⟩ := F.reads x hx
  obtain ⟨z, hz, hv⟩ := WideElems.rd_val hy
  rw [WideElems.rg_of hy, hv, rawE_inv hz]
  exact ⟨_, rfl⟩
theorem own_size {D : DataW Value} (h : w.ownsMap P K rawE b n D) : w.ownsMap P K rawE b (Maps.size D) D ∧ Maps.size D ≤ n := by
  obtain ⟨es, clock, hb, F, hs, rfl⟩ := h
  have e : Maps.size (DataW.map ((es.toList.map (WideElems.rg P K rawE)).foldr DataW.insert [])) = es.size := by
    rw [Maps.size_eq, length_sorted]; simp
  exact ⟨⟨es, clock, hb, F, by rw [e]; exact Nat.le_refl _, rfl⟩, by rw [e]; exact hs⟩

/-- Block b is a map with n entries, and f says what it holds at each key. -/
def MapF (w : World) (P : Program) (K : TypeId) (b : Nat) (f : Lit → Option Value) (n : Nat) : Prop :=
  ∃ D, w.ownsMap P K rawE b n D ∧ Maps.size D = n ∧ ∀ k, WideAt.IsKeyLit k → lookD D k = f k

theorem MapF.lt (h : MapF w P K b f n) : b < w.heap.size := by obtain ⟨D, h, _⟩ := h; exact h.lt
theorem MapF.kept {row : Option Nat} (h : MapF w P K b f n) (hg : w.grownBy w' row) (hne : some b ≠ row) : MapF w' P K b f n := by
  obtain ⟨D, h, r⟩ := h; exact ⟨D, h.kept hg hne, r⟩
theorem MapF.below (h : MapF w P K b f n) (hb : Below w.heap.size w w') : MapF w' P K b f n := h.kept (only_of_below hb none) (by simp)
theorem MapF.alloc (h : MapF w P K b f n) (o : Obj) : MapF (w.alloc o) P K b f n := by obtain ⟨D, h, r⟩ := h; exact ⟨D, h.alloc o, r⟩
theorem MapF.drew (h : MapF w P K b f n) : MapF w.drew P K b f n := by obtain ⟨D, h, r⟩ := h; exact ⟨D, h.drew, r⟩
theorem MapF.setCell (h : MapF w P K b f n) {a : Addr} (ha : b ≠ a.block) (u : Value) : MapF (w.setCell a u) P K b f n := by obtain ⟨D, h, r⟩ := h; exact ⟨D, h.setCell ha u, r⟩
theorem MapF.congr {g : Lit → Option Value} (h : MapF w P K b f n) (hg : ∀ k, WideAt.IsKeyLit k → f k = g k) : MapF w P K b g n := by
  obtain ⟨D, h, hs, hf⟩ := h; exact ⟨D, h, hs, fun k hk => (hf k hk).trans (hg k hk)⟩
/-- The map in another world whose block is the same. -/
theorem MapF.same_block (h : MapF w P K b f n) {c : Nat} (hc : w'.heap[c]? = w.heap[b]?) : MapF w' P K c f n := by
  obtain ⟨D, ⟨es, clock, hb, r⟩, q⟩ := h
  exact ⟨D, ⟨es, clock, hc.trans hb, r⟩, q⟩
theorem MapF.made (w : World) (P : Program) (K : TypeId) : MapF (w.alloc (.map #[] 0)) P K w.heap.size (fun _ => none) 0 :=
  ⟨.map [], World.ownsMap_made w P K rawE, rfl, fun _ _ => rfl⟩

def setF (f : Lit → Option Value) (k : Lit) (v : Value) : Lit → Option Value := fun x => if x.sameKey k then some v else f x
def delF (f : Lit → Option Value) (k : Lit) : Lit → Option Value := fun x => if x.sameKey k then none else f x

theorem look_put {D : DataW Value} (hm : Maps.IsMap D) {k : Lit} (hk : WideAt.IsKeyLit k) (v : Value) (x : Lit) : lookD (D.put k (.held v)) x = if x.sameKey k then some v else lookD D x := by
  unfold lookD
  cases h : x.sameKey k
  · rw [Maps.atKey_put_other (fun e => by rw [e, WideAt.sameKey_self hk] at h; cases h)]; rfl
  · rw [WideAt.sameKey_eq h, Maps.atKey_put_same hm hk]; rfl
theorem look_del (D : DataW Value) {k : Lit} (hk : WideAt.IsKeyLit k) (x : Lit) : lookD (D.del k) x = if x.sameKey k then none else lookD D x := by
  unfold lookD
  cases h : x.sameKey k
  · rw [Maps.atKey_del_other (fun e => by rw [e, WideAt.sameKey_self hk] at h; cases h)]; rfl
  · rw [WideAt.sameKey_eq h, Maps.atKey_del_same]; rfl
theorem size_put {es : List (Lit × DataW Value)} (ha : es.Pairwise fun p q => p.1 ≠ q.1) (hh : heldAll es) (k : Lit) (d : DataW Value) : Maps.size ((DataW.map es).put k d) = es.length + (if (lookD (.map es) k).isSome then 0 else 1) := by
  have h1 := Maps.length_strike (k := k) es ha
  have h2 := has_lookD hh k
  rw [Maps.has_eq] at h2
  rw [h2] at h1
  show (DataW.insert (k, d) (es.filter fun p => !p.1.sameKey k)).length = _
  rw [length_insert]
  cases h : (lookD (.map es) k).isSome <;> simp [h] at h1 ⊢ <;> omega
theorem size_del {es : List (Lit × DataW Value)} (ha : es.Pairwise fun p q => p.1 ≠ q.1) (hh : heldAll es) (k : Lit) : Maps.size ((DataW.map es).del k) = es.length - (if (lookD (.map es) k).isSome then 1 else 0) := by
  have h1 := Maps.length_strike (k := k) es ha
  have h2 := has_lookD hh k
  rw [Maps.has_eq] at h2
  rw [h2] at h1
  show (es.filter fun p => !p.1.sameKey k).length = _
  cases h : (lookD (.map es) k).isSome <;> simp [h] at h1 ⊢ <;> omega

theorem MapF.parts (h : MapF w P K b f n) (L : Keyed P K) : ∃ es, w.ownsMap P K rawE b n (.map es) ∧ heldAll es ∧ es.length = n ∧ (es.Pairwise fun p q => p.1 ≠ q.1) ∧ ∀ k, WideAt.IsKeyLit k → lookD (.map es) k = f k := by
  obtain ⟨D, ho, hs, hf⟩ := h
  obtain ⟨es, rfl, hh⟩ := held_of_own ho
  obtain ⟨es', e, ha, _⟩ := ho.entries L
  cases e
  exact ⟨es, ho, hh, hs, ha, hf⟩

/-- 'm[k]'. -/
theorem MapF.look {t e : TypeId} (h : MapF w P K b f n) (L : Keyed P K) (ht : P.underlying t = some (.map K e)) {z : Value} (hz : ∀ w, (zeroValue e).run P w = .ok z w) {key : Value} {kl : Lit} (hkey : keyOf P K key = some kl) {r : Option Value} (hr : f kl = r) :
    (Instr.lookup t (.map (some b)) key false).run P w = .ok (r.getD z) w := by
  obtain ⟨es, ho, hh, _, _, hf⟩ := h.parts L
  obtain ⟨v, ps, hrun, hv⟩ := ho.lookup L ht (hz w) (zd := .held z) (zp := []) rfl hkey
  rw [hrun]
  rw [atKey_lookD hh, hf kl (L.key hkey), hr] at hv
  cases hv
  rfl
/-- 'v, ok := m[k]'. -/
theorem MapF.look_ok {t e : TypeId} (h : MapF w P K b f n) (L : Keyed P K) (ht : P.underlying t = some (.map K e)) {z : Value} (hz : ∀ w, (zeroValue e).run P w = .ok z w) {key : Value} {kl : Lit} (hkey : keyOf P K key = some kl) {r : Option Value} (hr : f kl = r) :
    (Instr.lookup t (.map (some b)) key true).run P w = .ok (.tuple #[r.getD z, .bool r.isSome]) w := by
  obtain ⟨es, ho, hh, _, _, hf⟩ := h.parts L
  obtain ⟨v, ps, hrun, hv⟩ := ho.look_ok L ht (hz w) (zd := .held z) (zp := []) rfl hkey
  rw [hrun, has_lookD hh, hf kl (L.key hkey), hr]
  rw [atKey_lookD hh, hf kl (L.key hkey), hr] at hv
  cases hv
  rfl
/-- 'm[k] = v'. -/
theorem MapF.store {t e : TypeId} (h : MapF w P K b f n) (L : Keyed P K) (ht : P.underlying t = some (.map K e)) (hn : n < maxLen) {key : Value} {kl : Lit} (hkey : keyOf P K key = some kl) (v : Value) :
    ∃ w', (Instr.mapUpdate t (.map (some b)) key v).run P w = .ok () w' ∧ MapF w' P K b (setF f kl v) (n + (if (f kl).isSome then 0 else 1)) ∧ w.grownBy w' (some b) ∧ w'.heap.size = w.heap.size := by
  obtain ⟨es, ho, hh, hl, ha, hf⟩ := h.parts L
  obtain ⟨w', hrun, ho', ht'⟩ := ho.store L ht hn hkey (val := v) (d := .held v) (ps := []) rfl
  refine ⟨w', hrun, ⟨(DataW.map es).put kl (.held v), ?_, ?_, ?_⟩, ht'.grown, ?_⟩
  · have hz := own_size ho'
    have e : n + (if (f kl).isSome then 0 else 1) = Maps.size ((DataW.map es).put kl (.held v)) := by
      rw [size_put ha hh, hf kl (L.key hkey), hl]
    rw [e]; exact hz.1
  · rw [size_put ha hh, hf kl (L.key hkey), hl]
  · intro x hx
    rw [look_put ⟨es, rfl⟩ (L.key hkey) v x, hf x hx]; rfl
  · obtain ⟨_, _, _, _, _, rfl⟩ := ht'
    simp [ChangeMaps.setBlock]
/-- 'delete(m, k)'. -/
theorem MapF.drop {t e : TypeId} (h : MapF w P K b f n) (L : Keyed P K) (ht : P.underlying t = some (.map K e)) {key : Value} {kl : Lit} (hkey : keyOf P K key = some kl) (ty : TypeId) :
    ∃ w', (Builtin.delete_ #[t, K] ty #[.map (some b), key]).run P w = .ok (.tuple #[]) w' ∧ MapF w' P K b (delF f kl) (n - (if (f kl).isSome then 1 else 0)) ∧ w.grownBy w' (some b) ∧ w'.heap.size = w.heap.size := by
  obtain ⟨es, ho, hh, hl, ha, hf⟩ := h.parts L
  obtain ⟨w', hrun, ho', ht'⟩ := ho.drop L ht hkey ty
  refine ⟨w', hrun, ⟨(DataW.map es).del kl, ?_, ?_, ?_⟩, ht'.grown, ?_⟩
  · have hz := own_size ho'
    have e : n - (if (f kl).isSome then 1 else 0) = Maps.size ((DataW.map es).del kl) := by
      rw [size_del ha hh, hf kl (L.key hkey), hl]
    rw [e]; exact hz.1
  · rw [size_del ha hh, hf kl (L.key hkey), hl]
  · intro x hx
    rw [look_del _ (L.key hkey), hf x hx]; rfl
  · obtain ⟨_, _, _, _, _, rfl⟩ := ht'
    simp [ChangeMaps.setBlock]
theorem MapF.len {t e : TypeId} (h : MapF w P K b f n) (ht : P.underlying t = some (.map K e)) (ty : TypeId) : (Builtin.len_ #[t] ty #[.map (some b)]).run P w = .ok (.int .i64 n) w := by
  obtain ⟨D, ho, hs, _⟩ := h
  rw [ho.len ht ty, hs]

/-! At the operation, for the walk. -/
variable {ops : Array Oper} {rest : List Oper} {o : Oper} {a : Act} {Q : Exit → Act → World → Prop}

theorem wpList_f_look (hg : o.guard = none) (m x : Operand) (t : TypeId) (hop : o.op = Op.lookup t m x false) (e : TypeId) (L : Keyed P K) (ht : P.underlying t = some (.map K e)) {z : Value} (hz : ∀ w, (zeroValue e).run P w = .ok z w)
    (hown : MapF w P K b f n) (hm : a.eval m = .map (some b)) (key : Value) (kl : Lit) (hx : a.eval x = key) (hkey : keyOf P K key = some kl) (r : Option Value) (hr : f kl = r)
    (hK : wpList P ops Q rest (a.put o.dst (r.getD z)) w) : wpList P ops Q (o :: rest) a w := by
  refine wpList_plain hg fun K' hK' => ?_
  unfold Oper.wp
  simp [execOp, hop, hm, hx, hown.look L ht hz hkey hr, Result.andThen]
  exact hK' _ _ hK
theorem wpList_f_look_ok (hg : o.guard = none) (m x : Operand) (t : TypeId) (hop : o.op = Op.lookup t m x true) (e : TypeId) (L : Keyed P K) (ht : P.underlying t = some (.map K e)) {z : Value} (hz : ∀ w, (zeroValue e).run P w = .ok z w)
    (hown : MapF w P K b f n) (hm : a.eval m = .map (some b)) (key : Value) (kl : Lit) (hx : a.eval x = key) (hkey : keyOf P K key = some kl) (r : Option Value) (hr : f kl = r)
    (hK : wpList P ops Q rest (a.put o.dst (.tuple #[r.getD z, .bool r.isSome])) w) : wpList P ops Q (o :: rest) a w := by
  refine wpList_plain hg fun K' hK' => ?_
  unfold Oper.wp
  simp [execOp, hop, hm, hx, hown.look_ok L ht hz hkey hr, Result.andThen]
  exact hK' _ _ hK
theorem wpList_f_store (hg : o.guard = none) (m x v : Operand) (t : TypeId) (hop : o.op = Op.mapUpdate t m x v) (e : TypeId) (L : Keyed P K) (ht : P.underlying t = some (.map K e))
    (hown : MapF w P K b f n) (hn : n < maxLen) (hm : a.eval m = .map (some b)) (key val : Value) (kl : Lit) (hx : a.eval x = key) (hv : a.eval v = val) (hkey : keyOf P K key = some kl)
    (hK : ∀ w', MapF w' P K b (setF f kl val) (n + (if (f kl).isSome then 0 else 1)) → w.grownBy w' (some b) → w'.heap.size = w.heap.size → wpList P ops Q rest (a.put o.dst undef) w') : wpList P ops Q (o :: rest) a w := by
  refine wpList_plain hg fun K' hK' => ?_
  obtain ⟨w', hrun, r1, r2, r3⟩ := hown.store L ht hn hkey val
  unfold Oper.wp
  simp [execOp, hop, hm, hx, hv, hrun, Result.andThen]
  exact hK' _ _ (hK w' r1 r2 r3)
theorem wpList_f_delete (hg : o.guard = none) (m x : Operand) (t : TypeId) (hop : o.op = Op.call { callee := Callee.builtin Builtin.delete, args := #[m, x], argTypes := #[t, K] }) (e : TypeId) (L : Keyed P K) (ht : P.underlying t = some (.map K e))
    (hown : MapF w P K b f n) (hm : a.eval m = .map (some b)) (key : Value) (kl : Lit) (hx : a.eval x = key) (hkey : keyOf P K key = some kl)
    (hK : ∀ w', MapF w' P K b (delF f kl) (n - (if (f kl).isSome then 1 else 0)) → w.grownBy w' (some b) → w'.heap.size = w.heap.size → wpList P ops Q rest (a.put o.dst (.tuple #[])) w') : wpList P ops Q (o :: rest) a w := by
  refine wpList_plain hg fun K' hK' => ?_
  obtain ⟨w', hrun, r1, r2, r3⟩ := hown.drop L ht hkey o.type
  unfold Oper.wp
  simp [execOp, hop, resolve, invoke, builtin, hm, hx, hrun, Result.andThen]
  exact hK' _ _ (hK w' r1 r2 r3)
theorem wpList_f_len (hg : o.guard = none) (m : Operand) (t : TypeId) (hop : o.op = Op.call { callee := Callee.builtin Builtin.len, args := #[m], argTypes := #[t] }) (e : TypeId) (ht : P.underlying t = some (.map K e))
    (hown : MapF w P K b f n) (hm : a.eval m = .map (some b)) (hK : wpList P ops Q rest (a.put o.dst (.int .i64 n)) w) : wpList P ops Q (o :: rest) a w := by
  refine wpList_plain hg fun K' hK' => ?_
  unfold Oper.wp
  simp [execOp, hop, resolve, invoke, builtin, hm, hown.len ht o.type, Result.andThen]
  exact hK' _ _ hK

/-! Ranging. -/
/-- 'range m' under way in iterator r: ds are the entries that have come; cnt are to come. -/
def RangeF (w : World) (P : Program) (K : TypeId) (b r : Nat) (f : Lit → Option Value) (n : Nat) (ds : List (Lit × Value)) (cnt : Nat) : Prop :=
  ∃ (es : List (Lit × DataW Value)) (left : Lit → Bool), w.ranges P K rawE b r n (.map es) left cnt ∧ heldAll es ∧ es.length = n ∧ (∀ k, WideAt.IsKeyLit k → lookD (.map es) k = f k) ∧
    (∀ k, WideAt.IsKeyLit k → left k = ((f k).isSome && !ds.any fun p => p.1.sameKey k)) ∧ (ds.Pairwise fun p q => p.1 ≠ q.1) ∧ ∀ p ∈ ds, f p.1 = some p.2 ∧ ∃ key, keyOf P K key = some p.1
theorem RangeF.kept {r cnt : Nat} {ds : List (Lit × Value)} {row : Option Nat} (h : RangeF w P K b r f n ds cnt) (hg : w.grownBy w' row) (hb : some b ≠ row) (hr : some r ≠ row) : RangeF w' P K b r f n ds cnt := by
  obtain ⟨es, left, h, q⟩ := h; exact ⟨es, left, h.kept hg hb hr, q⟩
theorem RangeF.below {r cnt : Nat} {ds : List (Lit × Value)} (h : RangeF w P K b r f n ds cnt) (hb : Below w.heap.size w w') : RangeF w' P K b r f n ds cnt := h.kept (only_of_below hb none) (by simp) (by simp)
theorem RangeF.mapF {r cnt : Nat} {ds : List (Lit × Value)} (h : RangeF w P K b r f n ds cnt) : MapF w P K b f n := by
  obtain ⟨es, left, h, hh, hl, hf, _⟩ := h
  exact ⟨_, h.owns, hl, hf⟩
theorem RangeF.ne {r cnt : Nat} {ds : List (Lit × Value)} (h : RangeF w P K b r f n ds cnt) : r ≠ b ∧ r < w.heap.size := by
  obtain ⟨es, left, h, _⟩ := h
  exact ⟨h.ne, h.lt⟩
/-- All that is there has come. -/
def Whole (f : Lit → Option Value) (ds : List (Lit × Value)) : Prop := (ds.Pairwise fun p q => p.1 ≠ q.1) ∧ (∀ p ∈ ds, f p.1 = some p.2) ∧ ∀ k, WideAt.IsKeyLit k → ∀ v, f k = some v → (k, v) ∈ ds

theorem wpList_f_range (hg : o.guard = none) (m : Operand) (t : TypeId) (hop : o.op = Op.range t m) (e : TypeId) (L : Keyed P K) (ht : P.underlying t = some (.map K e)) (hown : MapF w P K b f n) (hm : a.eval m = .map (some b))
    (hK : ∀ w', RangeF w' P K b w.heap.size f n [] n → Below w.heap.size w w' → w'.heap.size = w.heap.size + 1 → wpList P ops Q rest (a.put o.dst (.pointer (some ⟨w.heap.size, 0, none⟩))) w') : wpList P ops Q (o :: rest) a w := by
  obtain ⟨es, ho, hh, hl, ha, hf⟩ := hown.parts L
  refine wpList_range_own w hg m t hop K e L ht rawE b n _ hm ho fun w' hr hg' hs => hK w' ⟨es, Maps.has (.map es), ?_, hh, hl, hf, fun k hk => ?_, List.Pairwise.nil, fun p hp => by cases hp⟩ ⟨hg'.os, hg'.tape, hg'.output, by omega, fun i hi => hg'.block i hi (by simp)⟩ hs
  · have e : Maps.size (DataW.map es) = n := hl
    rw [e] at hr
    exact hr
  · rw [has_lookD hh, hf k hk]; simp

theorem wpList_f_next (hg : o.guard = none) (it : Operand) (hop : o.op = Op.next it false) (L : Keyed P K) {r cnt : Nat} {ds : List (Lit × Value)} (h : RangeF w P K b r f n ds cnt) (hit : a.eval it = .pointer (some ⟨r, 0, none⟩))
    (hDone : cnt = 0 → Whole f ds → wpList P ops Q rest (a.put o.dst (.tuple #[.bool false])) w)
    (hMore : ∀ (key v : Value) (kl : Lit) (w' : World) (cnt' : Nat), keyOf P K key = some kl → f kl = some v → (kl ∉ ds.map (·.1)) → RangeF w' P K b r f n (ds ++ [(kl, v)]) cnt' → cnt' < cnt →
      w.grownBy w' (some r) → w'.heap.size = w.heap.size → (Instr.entry (.pointer (some ⟨r, 0, none⟩))).run P w' = .ok (.tuple #[key, v]) w' → wpList P ops Q rest (a.put o.dst (.tuple #[.bool true, key, v])) w') : wpList P ops Q (o :: rest) a w := by
  obtain ⟨es, left, h, hh, hl, hf, hleft, hdp, hds⟩ := h
  refine wpList_next_ranges w hg it hop K L rawE (fun v => v) (fun v => v) (fun key _ _ => ⟨key, rfl⟩) (fun v _ _ => ⟨v, rfl⟩) b r n _ left cnt hit h (fun h0 hl0 => hDone h0 ⟨hdp, fun p hp => (hds p hp).1, fun k hk v hv => ?_⟩) ?_
  · have h1 := hleft k hk
    rw [hl0, hv] at h1
    simp only [Option.isSome_some, Bool.true_and] at h1
    have h2 : (ds.any fun p => p.1.sameKey k) = true := by
      cases h3 : ds.any fun p => p.1.sameKey k
      · rw [h3] at h1; cases h1
      · rfl
    obtain ⟨p, hp, hk2⟩ := List.any_eq_true.1 h2
    have e := WideAt.sameKey_eq hk2
    have h4 := (hds p hp).1
    rw [e, hv] at h4
    cases h4
    rw [← e]; exact hp
  · intro key v kl y w' cnt' hkey hlk hv hat hrg hlt hgr hsz hen
    have hk := L.key hkey
    have hfk : f kl = some v := by
      rw [← hf kl hk]
      unfold lookD
      rw [hat, rawE_inv hv]
    have hlk' := hleft kl hk
    rw [hlk, hfk] at hlk'
    simp only [Option.isSome_some, Bool.true_and] at hlk'
    have hnot : (ds.any fun p => p.1.sameKey kl) = false := by
      cases h3 : ds.any fun p => p.1.sameKey kl
      · rfl
      · rw [h3] at hlk'; cases hlk'
    have hnin : kl ∉ ds.map (·.1) := fun hm => by
      obtain ⟨p, hp, e⟩ := List.mem_map.1 hm
      have := List.any_eq_false.1 hnot p hp
      rw [e] at this
      exact this (WideAt.sameKey_self hk)
    refine hMore key v kl w' cnt' hkey hfk hnin ⟨es, (fun z => left z && !z.sameKey kl), hrg, hh, hl, hf, fun k hk2 => ?_, ?_, ?_⟩ hlt hgr hsz hen
    · have h5 := hleft k hk2
      show (left k && !k.sameKey kl) = _
      rw [h5, List.any_append]
      by_cases e : k = kl
      · subst e
        simp [WideAt.sameKey_self hk]
      · have h6 : k.sameKey kl = false := Maps.sameKey_ne e
        have h7 : kl.sameKey k = false := Maps.sameKey_ne (fun e' => e e'.symm)
        simp [h6, h7]
    · rw [List.pairwise_append]
      exact ⟨hdp, List.pairwise_singleton _ _, fun p hp q hq => by
        obtain rfl : q = (kl, v) := by simpa using hq
        intro e
        exact hnin (List.mem_map.2 ⟨p, hp, e⟩)⟩
    · intro p hp
      rcases List.mem_append.1 hp with hp | hp
      · exact hds p hp
      · obtain rfl : p = (kl, v) := by simpa using hp
        exact ⟨hfk, key, hkey⟩
end

/-! By strings, by integers. -/
def strF (g : List UInt8 → Option Value) : Lit → Option Value | .string s => g s | _ => none
def intF (g : Int → Option Value) : Lit → Option Value | .int .i64 i => g i | _ => none
theorem strF_set (g : List UInt8 → Option Value) (s : List UInt8) (v : Value) : setF (strF g) (.string s) v = strF (fun x => if x = s then some v else g x) := by
  funext k
  cases k <;> simp [setF, strF, Lit.sameKey]
theorem strF_del (g : List UInt8 → Option Value) (s : List UInt8) : delF (strF g) (.string s) = strF (fun x => if x = s then none else g x) := by
  funext k
  cases k <;> simp [delF, strF, Lit.sameKey]
theorem intF_set (g : Int → Option Value) (i : Int) (v : Value) : setF (intF g) (.int .i64 i) v = intF (fun x => if x = i then some v else g x) := by
  funext k
  cases k with
  | int q x => cases q <;> simp [setF, intF, Lit.sameKey]
  | _ => simp [setF, intF, Lit.sameKey]
theorem intF_del (g : Int → Option Value) (i : Int) : delF (intF g) (.int .i64 i) = intF (fun x => if x = i then none else g x) := by
  funext k
  cases k with
  | int q x => cases q <;> simp [delF, intF, Lit.sameKey]
  | _ => simp [delF, intF, Lit.sameKey]

end Go.Proofs.YtehooifcgfkngaaDoor
