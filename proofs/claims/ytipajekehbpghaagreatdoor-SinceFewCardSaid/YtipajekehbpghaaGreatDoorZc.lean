/-
  Texts by their bytes.
-/
import Derived.Test.YtipajekehbpghaaGreatDoorZa
import Derived.Lib.Strings
import Derived.Laws.Concat
import Derived.OwnWalk
import Derived.Laws.AppendOwn
import Derived.Deep.Slices
import Derived.Maps.RangeWalk
import Derived.Maps.OwnSet
import Derived.StringKeys
import Derived.WalkSpells
import Derived.Laws.IdiomRangeMap
import Derived.Test.YtipajekehbpghaaGreatDoorZb
import Derived.OneCell
import Derived.Test.YtipajekehbpghaaGreatDoorZs
import Derived.RegionTactic
set_option linter.unusedVariables false
set_option linter.unusedSimpArgs false

namespace Go.Proofs.YtipajekehbpghaaGreatDoor
open Go.RowKit

theorem ba_ext {a b : ByteArray} (h : a.data.toList = b.data.toList) : a = b := by
  cases a with
  | mk a => cases b with
    | mk b => exact congrArg ByteArray.mk (Array.toList_inj.1 h)

theorem list_size (s : ByteArray) : s.data.toList.length = s.size := by simp
theorem size_rep {A : ByteArray} {c : UInt8} {k : Nat} (h : A.data.toList = List.replicate k c) : A.size = k := by
  have := congrArg List.length h
  rw [List.length_replicate] at this
  rw [← this]; rfl

theorem cat_list (a b : ByteArray) : (a ++ b).data.toList = a.data.toList ++ b.data.toList := by simp
theorem ext_list (a : ByteArray) (i j : Nat) : (a.extract i j).data.toList = (a.data.toList.take j).drop i := by
  simp [ByteArray.data_extract, Array.toList_extract, List.extract_eq_take_drop, List.drop_take]
theorem ext_end (a : ByteArray) (i : Nat) : (a.extract i a.size).data.toList = a.data.toList.drop i := by
  rw [ext_list, List.take_of_length_le (by simp)]
theorem ext_to (a : ByteArray) (j : Nat) : (a.extract 0 j).data.toList = a.data.toList.take j := by
  rw [ext_list, List.drop_zero]
theorem ext_mid (a : ByteArray) (i n : Nat) : (a.extract i (i + n)).data.toList = (a.data.toList.drop i).take n := by
  rw [ext_list, List.drop_take, Nat.add_sub_cancel_left]
theorem ext_size (a : ByteArray) (i j : Nat) (h : j ≤ a.size) : (a.extract i j).size = j - i := by simp [ByteArray.size_extract, Nat.min_eq_left h]

end Go.Proofs.YtipajekehbpghaaGreatDoor

namespace Go.Proofs.YtipajekehbpghaaGreatDoor
open Go.RowKit

/-- The text of these bytes. -/
def bs (l : List UInt8) : ByteArray := ⟨l.toArray⟩
theorem bs_list (l : List UInt8) : (bs l).data.toList = l := rfl
theorem bs_of (s : ByteArray) : bs s.data.toList = s := by cases s; rfl
theorem bs_size (l : List UInt8) : (bs l).size = l.length := rfl
theorem bs_inj {a b : List UInt8} (h : bs a = bs b) : a = b := by have := congrArg (·.data.toList) h; exact this
theorem cat_bs (a b : List UInt8) : bs a ++ bs b = bs (a ++ b) := ba_ext (by rw [cat_list]; rfl)

/-- Row b from off on holds the texts ps. -/
def RowS (W : World) (b off : Nat) (ps : List (List UInt8)) : Prop := ∀ (j : Nat) (hj : j < ps.length), W.cell? ⟨b, off + j, none⟩ = some (.string (bs ps[j]))
/-- v holds the texts ps, in a block from B on. -/
def HasS (W : World) (B : Nat) (v : Value) (ps : List (List UInt8)) : Prop :=
  ∃ A cap, v = .slice A ps.length cap ∧ ps.length ≤ cap ∧ (ps = [] ∨ ∃ b off, A = some ⟨b, off, none⟩ ∧ B ≤ b ∧ b < W.heap.size ∧ RowS W b off ps)

section
variable {W W' : World} {B b off : Nat} {v : Value} {ps : List (List UInt8)}
theorem RowS.below {D : Nat} (h : RowS W b off ps) (hb : Below D W W') (hD : b < D) : RowS W' b off ps := fun j hj => (hb.cell (p := ⟨b, off + j, none⟩) hD).trans (h j hj)
theorem RowS.drop (h : RowS W b off ps) (k : Nat) : RowS W b (off + k) (ps.drop k) := fun j hj => by
  have hj' : k + j < ps.length := by rw [List.length_drop] at hj; omega
  have := h (k + j) hj'
  rw [Nat.add_assoc, this, List.getElem_drop]
theorem HasS.mono {C : Nat} (h : HasS W B v ps) (hC : C ≤ B) : HasS W C v ps := by
  obtain ⟨A, cap, e, hc, h⟩ := h
  exact ⟨A, cap, e, hc, h.imp id fun ⟨b, off, e1, e2, e3, e4⟩ => ⟨b, off, e1, Nat.le_trans hC e2, e3, e4⟩⟩
/-- What lay there when the call began stays. -/
theorem HasS.below (h : HasS W B v ps) (hb : Below W.heap.size W W') : HasS W' B v ps := by
  obtain ⟨A, cap, e, hc, h⟩ := h
  exact ⟨A, cap, e, hc, h.imp id fun ⟨b, off, e1, e2, e3, e4⟩ => ⟨b, off, e1, e2, Nat.lt_of_lt_of_le e3 hb.size, e4.below hb e3⟩⟩
theorem HasS.nil (W : World) (B : Nat) (A : Option Addr) (cap : Nat) : HasS W B (.slice A 0 cap) [] := ⟨A, cap, rfl, Nat.zero_le _, .inl rfl⟩
theorem HasS.ways (h : HasS W B v ps) : (∃ A cap, v = .slice A 0 cap ∧ ps = []) ∨ ∃ b off cap, v = .slice (some ⟨b, off, none⟩) ps.length cap ∧ ps.length ≤ cap ∧ B ≤ b ∧ b < W.heap.size ∧ 0 < ps.length ∧ RowS W b off ps := by
  obtain ⟨A, cap, e, hc, h⟩ := h
  by_cases h0 : ps = []
  · subst h0; exact .inl ⟨A, cap, e, rfl⟩
  · obtain ⟨b, off, rfl, h1, h2, h3⟩ := h.resolve_left h0
    exact .inr ⟨b, off, cap, e, hc, h1, h2, List.length_pos_iff.2 h0, h3⟩
theorem HasS.row {cap : Nat} (hB : B ≤ b) (hb : b < W.heap.size) (hc : ps.length ≤ cap) (h : RowS W b off ps) : HasS W B (.slice (some ⟨b, off, none⟩) ps.length cap) ps := ⟨_, cap, rfl, hc, .inr ⟨b, off, rfl, hB, hb, h⟩⟩
end
theorem str_nil (l : List UInt8) : ((bs l).toList = []) ↔ l = [] := by
  rw [show (bs l).toList = l from Lib.toList_data _]

end Go.Proofs.YtipajekehbpghaaGreatDoor

namespace Go.Proofs.YtipajekehbpghaaGreatDoor
open Go.RowKit

/-- The cells of texts. -/
def txCells (l : List (List UInt8)) : List Value := l.map fun x => .string (bs x)
theorem txCells_len (l : List (List UInt8)) : (txCells l).length = l.length := by simp [txCells]
theorem txCells_app (l m : List (List UInt8)) : txCells (l ++ m) = txCells l ++ txCells m := by simp [txCells]
theorem txCells_one (l : List (List UInt8)) : ∀ u ∈ txCells l, u.oneCell' = true := fun u hu => by
  obtain ⟨x, _, rfl⟩ := List.mem_map.1 hu; rfl
theorem txCells_get (l : List (List UInt8)) (i : Nat) (hi : i < l.length) : (txCells l)[i]? = some (.string (bs l[i])) := by simp [txCells, hi]

/-- A slice of texts that the call owns. -/
def HasT (w : World) (B : Nat) (v : Value) (l : List (List UInt8)) : Prop := w.ownsRow B 9 1 v l.length (txCells l)
theorem HasT.later {w w' : World} {B : Nat} {v : Value} {l : List (List UInt8)} (h : HasT w B v l) (hb : Below w.heap.size w w') : HasT w' B v l :=
  World.ownsRow.kept h (only_of_below hb none) (by cases v.ownBlock <;> simp)
theorem HasT.mono {w : World} {B B' : Nat} {v : Value} {l : List (List UInt8)} (h : HasT w B v l) (hB : B' ≤ B) : HasT w B' v l := by
  refine ⟨h.1, ?_⟩
  rcases h.2 with hn | ⟨g, cap, cur, e, hb, rest⟩
  · exact .inl hn
  · exact .inr ⟨g, cap, cur, e, by omega, rest⟩
theorem HasT.ways {w : World} {B : Nat} {v : Value} {l : List (List UInt8)} (h : HasT w B v l) : (v = .slice none 0 0 ∧ l = []) ∨ ∃ g cap cur, v = .slice (some ⟨g, 0, none⟩) l.length cap ∧ B ≤ g ∧ g < w.heap.size ∧ l.length ≤ cap ∧ Blk w g 9 cur ∧ cur.size = cap ∧ cap ≤ maxLen ∧ RowS w g 0 l := by
  obtain ⟨h1, hw⟩ := h
  rcases hw with ⟨rfl, h0⟩ | ⟨g, cap, cur, rfl, hB, hg, hc, hm, hcs, ht⟩
  · exact .inl ⟨rfl, List.length_eq_zero_iff.1 h0⟩
  · right
    refine ⟨g, cap, cur, rfl, hB, (Array.getElem?_eq_some_iff.1 hg).1, hc, hg, by omega, hm, fun j hj => ?_⟩
    have c1 := txCells_get l j hj
    rw [← ht, List.getElem?_take, if_pos (by omega), Array.getElem?_toList] at c1
    rw [Nat.zero_add, Blk.cell hg, c1]
theorem HasT.form {w : World} {B : Nat} {v : Value} {l : List (List UInt8)} (h : HasT w B v l) : ∃ X cap, v = .slice X l.length cap ∧ l.length ≤ cap := by
  rcases h.ways with ⟨rfl, rfl⟩ | ⟨g, cap, _, rfl, _, _, hc, _⟩
  · exact ⟨none, 0, rfl, Nat.le_refl _⟩
  · exact ⟨_, cap, rfl, hc⟩
theorem HasT.has {w : World} {B : Nat} {v : Value} {l : List (List UInt8)} (h : HasT w B v l) : HasS w B v l := by
  rcases h.ways with ⟨rfl, rfl⟩ | ⟨g, cap, _, rfl, h1, h2, h3, _, _, _, h4⟩
  · exact HasS.nil _ _ _ _
  · exact HasS.row h1 h2 h3 h4
theorem HasT.pushed {w : World} {B : Nat} {v : Value} {l : List (List UInt8)} {a : List UInt8} (h : w.ownsRow B 9 1 v (l.length + 1) (txCells l ++ [.string (bs a)])) : HasT w B v (l ++ [a]) := by
  unfold HasT
  rw [txCells_app, List.length_append]
  exact h
theorem infoTx : (Tryz.prog.info? 9).map (fun i => (i.zero, i.size, i.bytes)) = some (some (.string ⟨#[]⟩), 1, 16) := by kernel_rfl
theorem new_text {w : World} {g : Nat} (hg : g = w.heap.size) (t : TypeId) (x : Value) : ∀ j u, ([x] : List Value)[j]? = some u → (w.alloc (.cells #[x] t)).cell? ((⟨g, 0, none⟩ : Addr).add j) = some u := by
  intro j u hu
  subst hg
  have hplain : (⟨w.heap.size, 0, none⟩ : Addr).add j = ⟨w.heap.size, j, none⟩ := by unfold Addr.add; split <;> simp_all
  rw [hplain, (Blk.new w t #[x]).cell j]
  cases j with
  | zero => simpa using hu
  | succ j => simp at hu

end Go.Proofs.YtipajekehbpghaaGreatDoor

namespace Go.Proofs.YtipajekehbpghaaGreatDoor
open Go.RowKit Go.Maps

/-- An element as it is. -/
def rawE (v : Value) : Option (DataW Value × List MemPlace) := some (.held v, [])
theorem rawE_inv {v : Value} {y : DataW Value × List MemPlace} (h : rawE v = some y) : y.1 = .held v := by cases h; rfl
/-- What a map holds at a key. -/
def lookD (D : DataW Value) (k : Lit) : Option Value := match D.atKey k .nil with | .held v => some v | _ => none
def heldAll (es : List (Lit × DataW Value)) : Prop := ∀ p ∈ es, ∃ v, p.2 = .held v

theorem lookD_find (es : List (Lit × DataW Value)) (k : Lit) : lookD (.map es) k = (es.find? fun p => p.1.sameKey k).bind fun p => match p.2 with | .held v => some v | _ => none := by
  unfold lookD DataW.atKey
  cases h : es.find? fun p => p.1.sameKey k <;> simp [h]
theorem has_lookD {es : List (Lit × DataW Value)} (h : heldAll es) (k : Lit) : Maps.has (.map es) k = (lookD (.map es) k).isSome := by
  rw [lookD_find, Maps.has_eq]
  cases hf : es.find? fun p => p.1.sameKey k with
  | none =>
    have := List.find?_eq_none.1 hf
    simp only [Option.bind_none, Option.isSome_none]
    rw [List.any_eq_false]
    exact this
  | some p =>
    have h1 := List.find?_some hf
    obtain ⟨v, hv⟩ := h p (List.mem_of_find?_eq_some hf)
    simp only [Option.bind_some, hv, Option.isSome_some]
    exact List.any_eq_true.2 ⟨p, List.mem_of_find?_eq_some hf, h1⟩
theorem atKey_lookD {es : List (Lit × DataW Value)} (h : heldAll es) (k : Lit) (z : Value) : (DataW.map es).atKey k (.held z) = .held ((lookD (.map es) k).getD z) := by
  rw [lookD_find]
  unfold DataW.atKey
  cases hf : es.find? fun p => p.1.sameKey k with
  | none => simp [hf]
  | some p =>
    obtain ⟨v, hv⟩ := h p (List.mem_of_find?_eq_some hf)
    simp [hf, hv]

section
variable {P : Program} {K : TypeId} {w w' : World} {b n : Nat} {f : Lit → Option Value}

theorem held_of_own {D : DataW Value} (h : w.ownsMap P K rawE b n D) : ∃ es, D = .map es ∧ heldAll es := by
  obtain ⟨es, clock, hb, F, hs, rfl⟩ := h
  refine ⟨_, rfl, fun p hp => ?_⟩
  obtain ⟨x, hx, rfl⟩ := List.mem_map.1 (mem_sorted.1 hp)
  obtain ⟨y, hy⟩ := F.reads x hx
  obtain ⟨z, hz, hv⟩ := WideElems.rd_val hy
  rw [WideElems.rg_of hy, hv, rawE_inv hz]
  exact ⟨_, rfl⟩
theorem own_size {D : DataW Value} (h : w.ownsMap P K rawE b n D) : w.ownsMap P K rawE b (Maps.size D) D ∧ Maps.size D ≤ n := by
  obtain ⟨es, clock, hb, F, hs, rfl⟩ := h
  have e : Maps.size (DataW.map ((es.toList.map (WideElems.rg P K rawE)).foldr DataW.insert [])) = es.size := by
    rw [Maps.size_eq, length_sorted]; simp
  exact ⟨⟨es, clock, hb, F, by rw [e]; exact Nat.le_refl _, rfl⟩, by rw [e]; exact hs⟩

/-- Block b is a map with n entries, and f says what it holds at each key. -/
def MapF (w : World) (P : Program) (K : TypeId) (b : Nat) (f : Lit → Option Value) (n : Nat) : Prop :=
  ∃ D, w.ownsMap P K rawE b n D ∧ Maps.size D = n ∧ ∀ k, WideAt.IsKeyLit k → lookD D k = f k

theorem MapF.lt (h : MapF w P K b f n) : b < w.heap.size := by obtain ⟨D, h, _⟩ := h; exact h.lt
theorem MapF.kept {row : Option Nat} (h : MapF w P K b f n) (hg : w.grownBy w' row) (hne : some b ≠ row) : MapF w' P K b f n := by
  obtain ⟨D, h, r⟩ := h; exact ⟨D, h.kept hg hne, r⟩
theorem MapF.below (h : MapF w P K b f n) (hb : Below w.heap.size w w') : MapF w' P K b f n := h.kept (only_of_below hb none) (by simp)
theorem MapF.alloc (h : MapF w P K b f n) (o : Obj) : MapF (w.alloc o) P K b f n := by obtain ⟨D, h, r⟩ := h; exact ⟨D, h.alloc o, r⟩
theorem MapF.drew (h : MapF w P K b f n) : MapF w.drew P K b f n := by obtain ⟨D, h, r⟩ := h; exact ⟨D, h.drew, r⟩
theorem MapF.setCell (h : MapF w P K b f n) {a : Addr} (ha : b ≠ a.block) (u : Value) : MapF (w.setCell a u) P K b f n := by obtain ⟨D, h, r⟩ := h; exact ⟨D, h.setCell ha u, r⟩
theorem MapF.congr {g : Lit → Option Value} (h : MapF w P K b f n) (hg : ∀ k, WideAt.IsKeyLit k → f k = g k) : MapF w P K b g n := by
  obtain ⟨D, h, hs, hf⟩ := h; exact ⟨D, h, hs, fun k hk => (hf k hk).trans (hg k hk)⟩
/-- The map in another world whose block is the same. -/
theorem MapF.same_block (h : MapF w P K b f n) {c : Nat} (hc : w'.heap[c]? = w.heap[b]?) : MapF w' P K c f n := by
  obtain ⟨D, ⟨es, clock, hb, r⟩, q⟩ := h
  exact ⟨D, ⟨es, clock, hc.trans hb, r⟩, q⟩
theorem MapF.made (w : World) (P : Program) (K : TypeId) : MapF (w.alloc (.map #[] 0)) P K w.heap.size (fun _ => none) 0 :=
  ⟨.map [], World.ownsMap_made w P K rawE, rfl, fun _ _ => rfl⟩

def setF (f : Lit → Option Value) (k : Lit) (v : Value) : Lit → Option Value := fun x => if x.sameKey k then some v else f x
def delF (f : Lit → Option Value) (k : Lit) : Lit → Option Value := fun x => if x.sameKey k then none else f x

theorem look_put {D : DataW Value} (hm : Maps.IsMap D) {k : Lit} (hk : WideAt.IsKeyLit k) (v : Value) (x : Lit) : lookD (D.put k (.held v)) x = if x.sameKey k then some v else lookD D x := by
  unfold lookD
  cases h : x.sameKey k
  · rw [Maps.atKey_put_other (fun e => by rw [e, WideAt.sameKey_self hk] at h; cases h)]; rfl
  · rw [WideAt.sameKey_eq h, Maps.atKey_put_same hm hk]; rfl
theorem look_del (D : DataW Value) {k : Lit} (hk : WideAt.IsKeyLit k) (x : Lit) : lookD (D.del k) x = if x.sameKey k then none else lookD D x := by
  unfold lookD
  cases h : x.sameKey k
  · rw [Maps.atKey_del_other (fun e => by rw [e, WideAt.sameKey_self hk] at h; cases h)]; rfl
  · rw [WideAt.sameKey_eq h, Maps.atKey_del_same]; rfl
theorem size_put {es : List (Lit × DataW Value)} (ha : es.Pairwise fun p q => p.1 ≠ q.1) (hh : heldAll es) (k : Lit) (d : DataW Value) : Maps.size ((DataW.map es).put k d) = es.length + (if (lookD (.map es) k).isSome then 0 else 1) := by
  have h1 := Maps.length_strike (k := k) es ha
  have h2 := has_lookD hh k
  rw [Maps.has_eq] at h2
  rw [h2] at h1
  show (DataW.insert (k, d) (es.filter fun p => !p.1.sameKey k)).length = _
  rw [length_insert]
  cases h : (lookD (.map es) k).isSome <;> simp [h] at h1 ⊢ <;> omega
theorem size_del {es : List (Lit × DataW Value)} (ha : es.Pairwise fun p q => p.1 ≠ q.1) (hh : heldAll es) (k : Lit) : Maps.size ((DataW.map es).del k) = es.length - (if (lookD (.map es) k).isSome then 1 else 0) := by
  have h1 := Maps.length_strike (k := k) es ha
  have h2 := has_lookD hh k
  rw [Maps.has_eq] at h2
  rw [h2] at h1
  show (es.filter fun p => !p.1.sameKey k).length = _
  cases h : (lookD (.map es) k).isSome <;> simp [h] at h1 ⊢ <;> omega

theorem MapF.parts (h : MapF w P K b f n) (L : Keyed P K) : ∃ es, w.ownsMap P K rawE b n (.map es) ∧ heldAll es ∧ es.length = n ∧ (es.Pairwise fun p q => p.1 ≠ q.1) ∧ ∀ k, WideAt.IsKeyLit k → lookD (.map es) k = f k := by
  obtain ⟨D, ho, hs, hf⟩ := h
  obtain ⟨es, rfl, hh⟩ := held_of_own ho
  obtain ⟨es', e, ha, _⟩ := ho.entries L
  cases e
  exact ⟨es, ho, hh, hs, ha, hf⟩

/-- 'm[k]'. -/
theorem MapF.look {t e : TypeId} (h : MapF w P K b f n) (L : Keyed P K) (ht : P.underlying t = some (.map K e)) {z : Value} (hz : ∀ w, (zeroValue e).run P w = .ok z w) {key : Value} {kl : Lit} (hkey : keyOf P K key = some kl) {r : Option Value} (hr : f kl = r) :
    (Instr.lookup t (.map (some b)) key false).run P w = .ok (r.getD z) w := by
  obtain ⟨es, ho, hh, _, _, hf⟩ := h.parts L
  obtain ⟨v, ps, hrun, hv⟩ := ho.lookup L ht (hz w) (zd := .held z) (zp := []) rfl hkey
  rw [hrun]
  rw [atKey_lookD hh, hf kl (L.key hkey), hr] at hv
  cases hv
  rfl
/-- 'v, ok := m[k]'. -/
theorem MapF.look_ok {t e : TypeId} (h : MapF w P K b f n) (L : Keyed P K) (ht : P.underlying t = some (.map K e)) {z : Value} (hz : ∀ w, (zeroValue e).run P w = .ok z w) {key : Value} {kl : Lit} (hkey : keyOf P K key = some kl) {r : Option Value} (hr : f kl = r) :
    (Instr.lookup t (.map (some b)) key true).run P w = .ok (.tuple #[r.getD z, .bool r.isSome]) w := by
  obtain ⟨es, ho, hh, _, _, hf⟩ := h.parts L
  obtain ⟨v, ps, hrun, hv⟩ := ho.look_ok L ht (hz w) (zd := .held z) (zp := []) rfl hkey
  rw [hrun, has_lookD hh, hf kl (L.key hkey), hr]
  rw [atKey_lookD hh, hf kl (L.key hkey), hr] at hv
  cases hv
  rfl
/-- 'm[k] = v'. -/
theorem MapF.store {t e : TypeId} (h : MapF w P K b f n) (L : Keyed P K) (ht : P.underlying t = some (.map K e)) (hn : n < maxLen) {key : Value} {kl : Lit} (hkey : keyOf P K key = some kl) (v : Value) :
    ∃ w', (Instr.mapUpdate t (.map (some b)) key v).run P w = .ok () w' ∧ MapF w' P K b (setF f kl v) (n + (if (f kl).isSome then 0 else 1)) ∧ w.grownBy w' (some b) ∧ w'.heap.size = w.heap.size := by
  obtain ⟨es, ho, hh, hl, ha, hf⟩ := h.parts L
  obtain ⟨w', hrun, ho', ht'⟩ := ho.store L ht hn hkey (val := v) (d := .held v) (ps := []) rfl
  refine ⟨w', hrun, ⟨(DataW.map es).put kl (.held v), ?_, ?_, ?_⟩, ht'.grown, ?_⟩
  · have hz := own_size ho'
    have e : n + (if (f kl).isSome then 0 else 1) = Maps.size ((DataW.map es).put kl (.held v)) := by
      rw [size_put ha hh, hf kl (L.key hkey), hl]
    rw [e]; exact hz.1
  · rw [size_put ha hh, hf kl (L.key hkey), hl]
  · intro x hx
    rw [look_put ⟨es, rfl⟩ (L.key hkey) v x, hf x hx]; rfl
  · obtain ⟨_, _, _, _, _, rfl⟩ := ht'
    simp [ChangeMaps.setBlock]
/-- 'delete(m, k)'. -/
theorem MapF.drop {t e : TypeId} (h : MapF w P K b f n) (L : Keyed P K) (ht : P.underlying t = some (.map K e)) {key : Value} {kl : Lit} (hkey : keyOf P K key = some kl) (ty : TypeId) :
    ∃ w', (Builtin.delete_ #[t, K] ty #[.map (some b), key]).run P w = .ok (.tuple #[]) w' ∧ MapF w' P K b (delF f kl) (n - (if (f kl).isSome then 1 else 0)) ∧ w.grownBy w' (some b) ∧ w'.heap.size = w.heap.size := by
  obtain ⟨es, ho, hh, hl, ha, hf⟩ := h.parts L
  obtain ⟨w', hrun, ho', ht'⟩ := ho.drop L ht hkey ty
  refine ⟨w', hrun, ⟨(DataW.map es).del kl, ?_, ?_, ?_⟩, ht'.grown, ?_⟩
  · have hz := own_size ho'
    have e : n - (if (f kl).isSome then 1 else 0) = Maps.size ((DataW.map es).del kl) := by
      rw [size_del ha hh, hf kl (L.key hkey), hl]
    rw [e]; exact hz.1
  · rw [size_del ha hh, hf kl (L.key hkey), hl]
  · intro x hx
    rw [look_del _ (L.key hkey), hf x hx]; rfl
  · obtain ⟨_, _, _, _, _, rfl⟩ := ht'
    simp [ChangeMaps.setBlock]
theorem MapF.len {t e : TypeId} (h : MapF w P K b f n) (ht : P.underlying t = some (.map K e)) (ty : TypeId) : (Builtin.len_ #[t] ty #[.map (some b)]).run P w = .ok (.int .i64 n) w := by
  obtain ⟨D, ho, hs, _⟩ := h
  rw [ho.len ht ty, hs]

/-! At the operation, for the walk. -/
variable {ops : Array Oper} {rest : List Oper} {o : Oper} {a : Act} {Q : Exit → Act → World → Prop}

theorem wpList_f_look (hg : o.guard = none) (m x : Operand) (t : TypeId) (hop : o.op = Op.lookup t m x false) (e : TypeId) (L : Keyed P K) (ht : P.underlying t = some (.map K e)) {z : Value} (hz : ∀ w, (zeroValue e).run P w = .ok z w)
    (hown : MapF w P K b f n) (hm : a.eval m = .map (some b)) (key : Value) (kl : Lit) (hx : a.eval x = key) (hkey : keyOf P K key = some kl) (r : Option Value) (hr : f kl = r)
    (hK : wpList P ops Q rest (a.put o.dst (r.getD z)) w) : wpList P ops Q (o :: rest) a w := by
  refine wpList_plain hg fun K' hK' => ?_
  unfold Oper.wp
  simp [execOp, hop, hm, hx, hown.look L ht hz hkey hr, Result.andThen]
  exact hK' _ _ hK
theorem wpList_f_look_ok (hg : o.guard = none) (m x : Operand) (t : TypeId) (hop : o.op = Op.lookup t m x true) (e : TypeId) (L : Keyed P K) (ht : P.underlying t = some (.map K e)) {z : Value} (hz : ∀ w, (zeroValue e).run P w = .ok z w)
    (hown : MapF w P K b f n) (hm : a.eval m = .map (some b)) (key : Value) (kl : Lit) (hx : a.eval x = key) (hkey : keyOf P K key = some kl) (r : Option Value) (hr : f kl = r)
    (hK : wpList P ops Q rest (a.put o.dst (.tuple #[r.getD z, .bool r.isSome])) w) : wpList P ops Q (o :: rest) a w := by
  refine wpList_plain hg fun K' hK' => ?_
  unfold Oper.wp
  simp [execOp, hop, hm, hx, hown.look_ok L ht hz hkey hr, Result.andThen]
  exact hK' _ _ hK
theorem wpList_f_store (hg : o.guard = none) (m x v : Operand) (t : TypeId) (hop : o.op = Op.mapUpdate t m x v) (e : TypeId) (L : Keyed P K) (ht : P.underlying t = some (.map K e))
    (hown : MapF w P K b f n) (hn : n < maxLen) (hm : a.eval m = .map (some b)) (key val : Value) (kl : Lit) (hx : a.eval x = key) (hv : a.eval v = val) (hkey : keyOf P K key = some kl)
    (hK : ∀ w', MapF w' P K b (setF f kl val) (n + (if (f kl).isSome then 0 else 1)) → w.grownBy w' (some b) → w'.heap.size = w.heap.size → wpList P ops Q rest (a.put o.dst undef) w') : wpList P ops Q (o :: rest) a w := by
  refine wpList_plain hg fun K' hK' => ?_
  obtain ⟨w', hrun, r1, r2, r3⟩ := hown.store L ht hn hkey val
  unfold Oper.wp
  simp [execOp, hop, hm, hx, hv, hrun, Result.andThen]
  exact hK' _ _ (hK w' r1 r2 r3)
theorem wpList_f_delete (hg : o.guard = none) (m x : Operand) (t : TypeId) (hop : o.op = Op.call { callee := Callee.builtin Builtin.delete, args := #[m, x], argTypes := #[t, K] }) (e : TypeId) (L : Keyed P K) (ht : P.underlying t = some (.map K e))
    (hown : MapF w P K b f n) (hm : a.eval m = .map (some b)) (key : Value) (kl : Lit) (hx : a.eval x = key) (hkey : keyOf P K key = some kl)
    (hK : ∀ w', MapF w' P K b (delF f kl) (n - (if (f kl).isSome then 1 else 0)) → w.grownBy w' (some b) → w'.heap.size = w.heap.size → wpList P ops Q rest (a.put o.dst (.tuple #[])) w') : wpList P ops Q (o :: rest) a w := by
  refine wpList_plain hg fun K' hK' => ?_
  obtain ⟨w', hrun, r1, r2, r3⟩ := hown.drop L ht hkey o.type
  unfold Oper.wp
  simp [execOp, hop, resolve, invoke, builtin, hm, hx, hrun, Result.andThen]
  exact hK' _ _ (hK w' r1 r2 r3)
theorem wpList_f_len (hg : o.guard = none) (m : Operand) (t : TypeId) (hop : o.op = Op.call { callee := Callee.builtin Builtin.len, args := #[m], argTypes := #[t] }) (e : TypeId) (ht : P.underlying t = some (.map K e))
    (hown : MapF w P K b f n) (hm : a.eval m = .map (some b)) (hK : wpList P ops Q rest (a.put o.dst (.int .i64 n)) w) : wpList P ops Q (o :: rest) a w := by
  refine wpList_plain hg fun K' hK' => ?_
  unfold Oper.wp
  simp [execOp, hop, resolve, invoke, builtin, hm, hown.len ht o.type, Result.andThen]
  exact hK' _ _ hK

/-! Ranging. -/
/-- 'range m' under way in iterator r: ds are the entries that have come; cnt are to come. -/
def RangeF (w : World) (P : Program) (K : TypeId) (b r : Nat) (f : Lit → Option Value) (n : Nat) (ds : List (Lit × Value)) (cnt : Nat) : Prop :=
  ∃ (es : List (Lit × DataW Value)) (left : Lit → Bool), w.ranges P K rawE b r n (.map es) left cnt ∧ heldAll es ∧ es.length = n ∧ (∀ k, WideAt.IsKeyLit k → lookD (.map es) k = f k) ∧
    (∀ k, WideAt.IsKeyLit k → left k = ((f k).isSome && !ds.any fun p => p.1.sameKey k)) ∧ (ds.Pairwise fun p q => p.1 ≠ q.1) ∧ ∀ p ∈ ds, f p.1 = some p.2 ∧ ∃ key, keyOf P K key = some p.1
theorem RangeF.kept {r cnt : Nat} {ds : List (Lit × Value)} {row : Option Nat} (h : RangeF w P K b r f n ds cnt) (hg : w.grownBy w' row) (hb : some b ≠ row) (hr : some r ≠ row) : RangeF w' P K b r f n ds cnt := by
  obtain ⟨es, left, h, q⟩ := h; exact ⟨es, left, h.kept hg hb hr, q⟩
theorem RangeF.below {r cnt : Nat} {ds : List (Lit × Value)} (h : RangeF w P K b r f n ds cnt) (hb : Below w.heap.size w w') : RangeF w' P K b r f n ds cnt := h.kept (only_of_below hb none) (by simp) (by simp)
theorem RangeF.mapF {r cnt : Nat} {ds : List (Lit × Value)} (h : RangeF w P K b r f n ds cnt) : MapF w P K b f n := by
  obtain ⟨es, left, h, hh, hl, hf, _⟩ := h
  exact ⟨_, h.owns, hl, hf⟩
theorem RangeF.ne {r cnt : Nat} {ds : List (Lit × Value)} (h : RangeF w P K b r f n ds cnt) : r ≠ b ∧ r < w.heap.size := by
  obtain ⟨es, left, h, _⟩ := h
  exact ⟨h.ne, h.lt⟩
/-- All that is there has come. -/
def Whole (f : Lit → Option Value) (ds : List (Lit × Value)) : Prop := (ds.Pairwise fun p q => p.1 ≠ q.1) ∧ (∀ p ∈ ds, f p.1 = some p.2) ∧ ∀ k, WideAt.IsKeyLit k → ∀ v, f k = some v → (k, v) ∈ ds

theorem wpList_f_range (hg : o.guard = none) (m : Operand) (t : TypeId) (hop : o.op = Op.range t m) (e : TypeId) (L : Keyed P K) (ht : P.underlying t = some (.map K e)) (hown : MapF w P K b f n) (hm : a.eval m = .map (some b))
    (hK : ∀ w', RangeF w' P K b w.heap.size f n [] n → Below w.heap.size w w' → w'.heap.size = w.heap.size + 1 → wpList P ops Q rest (a.put o.dst (.pointer (some ⟨w.heap.size, 0, none⟩))) w') : wpList P ops Q (o :: rest) a w := by
  obtain ⟨es, ho, hh, hl, ha, hf⟩ := hown.parts L
  refine wpList_range_own w hg m t hop K e L ht rawE b n _ hm ho fun w' hr hg' hs => hK w' ⟨es, Maps.has (.map es), ?_, hh, hl, hf, fun k hk => ?_, List.Pairwise.nil, fun p hp => by cases hp⟩ ⟨hg'.os, hg'.tape, hg'.output, by omega, fun i hi => hg'.block i hi (by simp)⟩ hs
  · have e : Maps.size (DataW.map es) = n := hl
    rw [e] at hr
    exact hr
  · rw [has_lookD hh, hf k hk]; simp

theorem wpList_f_next (hg : o.guard = none) (it : Operand) (hop : o.op = Op.next it false) (L : Keyed P K) {r cnt : Nat} {ds : List (Lit × Value)} (h : RangeF w P K b r f n ds cnt) (hit : a.eval it = .pointer (some ⟨r, 0, none⟩))
    (hDone : cnt = 0 → Whole f ds → wpList P ops Q rest (a.put o.dst (.tuple #[.bool false])) w)
    (hMore : ∀ (key v : Value) (kl : Lit) (w' : World) (cnt' : Nat), keyOf P K key = some kl → f kl = some v → (kl ∉ ds.map (·.1)) → RangeF w' P K b r f n (ds ++ [(kl, v)]) cnt' → cnt' < cnt →
      w.grownBy w' (some r) → w'.heap.size = w.heap.size → (Instr.entry (.pointer (some ⟨r, 0, none⟩))).run P w' = .ok (.tuple #[key, v]) w' → wpList P ops Q rest (a.put o.dst (.tuple #[.bool true, key, v])) w') : wpList P ops Q (o :: rest) a w := by
  obtain ⟨es, left, h, hh, hl, hf, hleft, hdp, hds⟩ := h
  refine wpList_next_ranges w hg it hop K L rawE (fun v => v) (fun v => v) (fun key _ _ => ⟨key, rfl⟩) (fun v _ _ => ⟨v, rfl⟩) b r n _ left cnt hit h (fun h0 hl0 => hDone h0 ⟨hdp, fun p hp => (hds p hp).1, fun k hk v hv => ?_⟩) ?_
  · have h1 := hleft k hk
    rw [hl0, hv] at h1
    simp only [Option.isSome_some, Bool.true_and] at h1
    have h2 : (ds.any fun p => p.1.sameKey k) = true := by
      cases h3 : ds.any fun p => p.1.sameKey k
      · rw [h3] at h1; cases h1
      · rfl
    obtain ⟨p, hp, hk2⟩ := List.any_eq_true.1 h2
    have e := WideAt.sameKey_eq hk2
    have h4 := (hds p hp).1
    rw [e, hv] at h4
    cases h4
    rw [← e]; exact hp
  · intro key v kl y w' cnt' hkey hlk hv hat hrg hlt hgr hsz hen
    have hk := L.key hkey
    have hfk : f kl = some v := by
      rw [← hf kl hk]
      unfold lookD
      rw [hat, rawE_inv hv]
    have hlk' := hleft kl hk
    rw [hlk, hfk] at hlk'
    simp only [Option.isSome_some, Bool.true_and] at hlk'
    have hnot : (ds.any fun p => p.1.sameKey kl) = false := by
      cases h3 : ds.any fun p => p.1.sameKey kl
      · rfl
      · rw [h3] at hlk'; cases hlk'
    have hnin : kl ∉ ds.map (·.1) := fun hm => by
      obtain ⟨p, hp, e⟩ := List.mem_map.1 hm
      have := List.any_eq_false.1 hnot p hp
      rw [e] at this
      exact this (WideAt.sameKey_self hk)
    refine hMore key v kl w' cnt' hkey hfk hnin ⟨es, (fun z => left z && !z.sameKey kl), hrg, hh, hl, hf, fun k hk2 => ?_, ?_, ?_⟩ hlt hgr hsz hen
    · have h5 := hleft k hk2
      show (left k && !k.sameKey kl) = _
      rw [h5, List.any_append]
      by_cases e : k = kl
      · subst e
        simp [WideAt.sameKey_self hk]
      · have h6 : k.sameKey kl = false := Maps.sameKey_ne e
        have h7 : kl.sameKey k = false := Maps.sameKey_ne (fun e' => e e'.symm)
        simp [h6, h7]
    · rw [List.pairwise_append]
      exact ⟨hdp, List.pairwise_singleton _ _, fun p hp q hq => by
        obtain rfl : q = (kl, v) := by simpa using hq
        intro e
        exact hnin (List.mem_map.2 ⟨p, hp, e⟩)⟩
    · intro p hp
      rcases List.mem_append.1 hp with hp | hp
      · exact hds p hp
      · obtain rfl : p = (kl, v) := by simpa using hp
        exact ⟨hfk, key, hkey⟩
end

/-! By strings, by integers. -/
def strF (g : List UInt8 → Option Value) : Lit → Option Value | .string s => g s | _ => none
def intF (g : Int → Option Value) : Lit → Option Value | .int .i64 i => g i | _ => none
theorem strF_set (g : List UInt8 → Option Value) (s : List UInt8) (v : Value) : setF (strF g) (.string s) v = strF (fun x => if x = s then some v else g x) := by
  funext k
  cases k <;> simp [setF, strF, Lit.sameKey]
theorem strF_del (g : List UInt8 → Option Value) (s : List UInt8) : delF (strF g) (.string s) = strF (fun x => if x = s then none else g x) := by
  funext k
  cases k <;> simp [delF, strF, Lit.sameKey]
theorem intF_set (g : Int → Option Value) (i : Int) (v : Value) : setF (intF g) (.int .i64 i) v = intF (fun x => if x = i then some v else g x) := by
  funext k
  cases k with
  | int q x => cases q <;> simp [setF, intF, Lit.sameKey]
  | _ => simp [setF, intF, Lit.sameKey]
theorem intF_del (g : Int → Option Value) (i : Int) : delF (intF g) (.int .i64 i) = intF (fun x => if x = i then none else g x) := by
  funext k
  cases k with
  | int q x => cases q <;> simp [delF, intF, Lit.sameKey]
  | _ => simp [delF, intF, Lit.sameKey]

end Go.Proofs.YtipajekehbpghaaGreatDoor

namespace Go.Proofs.YtipajekehbpghaaGreatDoor
open Go.RowKit Go.Maps

section
variable {P : Program} {K : TypeId} {w w' : World} {n : Nat} {f : Lit → Option Value} {o : Option Nat}

/-- The map value of block o (none: nil) has n entries, and f says what it holds at each key. -/
def MapO (w : World) (P : Program) (K : TypeId) (o : Option Nat) (f : Lit → Option Value) (n : Nat) : Prop :=
  match o with
  | none => n = 0 ∧ ∀ k, WideAt.IsKeyLit k → f k = none
  | some b => MapF w P K b f n

theorem MapO.lt (h : MapO w P K o f n) : ∀ b, o = some b → b < w.heap.size := by
  rintro b rfl; exact MapF.lt h
theorem MapO.kept (h : MapO w P K o f n) (hs : w.heap.size ≤ w'.heap.size) (hb : ∀ b, o = some b → w'.heap[b]? = w.heap[b]?) : MapO w' P K o f n := by
  cases o with
  | none => exact h
  | some b => exact MapF.same_block h (hb b rfl)
theorem MapO.congr {g : Lit → Option Value} (h : MapO w P K o f n) (hg : ∀ k, WideAt.IsKeyLit k → f k = g k) : MapO w P K o g n := by
  cases o with
  | none => exact ⟨h.1, fun k hk => (hg k hk).symm.trans (h.2 k hk)⟩
  | some b => exact MapF.congr h hg
theorem MapO.below (h : MapO w P K o f n) (hb : Below w.heap.size w w') : MapO w' P K o f n := h.kept hb.size fun b e => hb.block b (h.lt b e)
theorem MapO.drew (h : MapO w P K o f n) : MapO w.drew P K o f n := by
  cases o with
  | none => exact h
  | some b => exact MapF.drew h
theorem MapO.alloc (h : MapO w P K o f n) (x : Obj) : MapO (w.alloc x) P K o f n := by
  cases o with
  | none => exact h
  | some b => exact MapF.alloc h x

/-- 'm[k]'. -/
theorem MapO.look {t e : TypeId} (h : MapO w P K o f n) (L : Keyed P K) (ht : P.underlying t = some (.map K e)) {z : Value} (hz : ∀ w, (zeroValue e).run P w = .ok z w) {key : Value} {kl : Lit} (hkey : keyOf P K key = some kl) {r : Option Value} (hr : f kl = r) :
    (Instr.lookup t (.map o) key false).run P w = .ok (r.getD z) w := by
  cases o with
  | none =>
    rw [h.2 kl (L.key hkey)] at hr
    subst hr
    simpa using Maps.look_nil false L ht (hz w) hkey
  | some b => exact MapF.look h L ht hz hkey hr
theorem MapO.look_ok {t e : TypeId} (h : MapO w P K o f n) (L : Keyed P K) (ht : P.underlying t = some (.map K e)) {z : Value} (hz : ∀ w, (zeroValue e).run P w = .ok z w) {key : Value} {kl : Lit} (hkey : keyOf P K key = some kl) {r : Option Value} (hr : f kl = r) :
    (Instr.lookup t (.map o) key true).run P w = .ok (.tuple #[r.getD z, .bool r.isSome]) w := by
  cases o with
  | none =>
    rw [h.2 kl (L.key hkey)] at hr
    subst hr
    simpa using Maps.look_nil true L ht (hz w) hkey
  | some b => exact MapF.look_ok h L ht hz hkey hr
theorem MapO.len {t e : TypeId} (h : MapO w P K o f n) (ht : P.underlying t = some (.map K e)) (ty : TypeId) : (Builtin.len_ #[t] ty #[.map o]).run P w = .ok (.int .i64 n) w := by
  cases o with
  | none => rw [h.1]; exact Maps.len_nil ht ty
  | some b => exact MapF.len h ht ty

variable {ops : Array Oper} {rest : List Oper} {op : Oper} {a : Act} {Q : Exit → Act → World → Prop}

theorem wpList_o_look (hg : op.guard = none) (m x : Operand) (t : TypeId) (hop : op.op = Op.lookup t m x false) (e : TypeId) (L : Keyed P K) (ht : P.underlying t = some (.map K e)) {z : Value} (hz : ∀ w, (zeroValue e).run P w = .ok z w)
    (hown : MapO w P K o f n) (hm : a.eval m = .map o) (key : Value) (kl : Lit) (hx : a.eval x = key) (hkey : keyOf P K key = some kl) (r : Option Value) (hr : f kl = r)
    (hK : wpList P ops Q rest (a.put op.dst (r.getD z)) w) : wpList P ops Q (op :: rest) a w := by
  refine wpList_plain hg fun K' hK' => ?_
  unfold Oper.wp
  simp [execOp, hop, hm, hx, hown.look L ht hz hkey hr, Result.andThen]
  exact hK' _ _ hK
theorem wpList_o_look_ok (hg : op.guard = none) (m x : Operand) (t : TypeId) (hop : op.op = Op.lookup t m x true) (e : TypeId) (L : Keyed P K) (ht : P.underlying t = some (.map K e)) {z : Value} (hz : ∀ w, (zeroValue e).run P w = .ok z w)
    (hown : MapO w P K o f n) (hm : a.eval m = .map o) (key : Value) (kl : Lit) (hx : a.eval x = key) (hkey : keyOf P K key = some kl) (r : Option Value) (hr : f kl = r)
    (hK : wpList P ops Q rest (a.put op.dst (.tuple #[r.getD z, .bool r.isSome])) w) : wpList P ops Q (op :: rest) a w := by
  refine wpList_plain hg fun K' hK' => ?_
  unfold Oper.wp
  simp [execOp, hop, hm, hx, hown.look_ok L ht hz hkey hr, Result.andThen]
  exact hK' _ _ hK
theorem wpList_o_len (hg : op.guard = none) (m : Operand) (t : TypeId) (hop : op.op = Op.call { callee := Callee.builtin Builtin.len, args := #[m], argTypes := #[t] }) (e : TypeId) (ht : P.underlying t = some (.map K e))
    (hown : MapO w P K o f n) (hm : a.eval m = .map o) (hK : wpList P ops Q rest (a.put op.dst (.int .i64 n)) w) : wpList P ops Q (op :: rest) a w := by
  refine wpList_plain hg fun K' hK' => ?_
  unfold Oper.wp
  simp [execOp, hop, resolve, invoke, builtin, hm, hown.len ht op.type, Result.andThen]
  exact hK' _ _ hK

/-! Ranging. -/
/-- 'range m' under way, m nil or made. -/
def RangeO (w : World) (P : Program) (K : TypeId) (o : Option Nat) (r : Nat) (f : Lit → Option Value) (n : Nat) (ds : List (Lit × Value)) (cnt : Nat) : Prop :=
  match o with
  | none => w.heap[r]? = some (.mapIter none 0 #[] 0) ∧ n = 0 ∧ (∀ k, WideAt.IsKeyLit k → f k = none) ∧ ds = [] ∧ cnt = 0
  | some b => RangeF w P K b r f n ds cnt
theorem RangeO.kept {r cnt : Nat} {ds : List (Lit × Value)} (h : RangeO w P K o r f n ds cnt) (hs : w.heap.size ≤ w'.heap.size) (hos : w'.os = w.os ∧ w'.tape = w.tape ∧ w'.output = w.output) (hb : ∀ b, o = some b ∨ b = r → w'.heap[b]? = w.heap[b]?) : RangeO w' P K o r f n ds cnt := by
  cases o with
  | none => exact ⟨(hb r (.inr rfl)).trans h.1, h.2⟩
  | some b =>
    obtain ⟨es, left, ⟨es2, clock, since, seen, c0, e1, F, e2, e3, e4, q⟩, q2⟩ := h
    exact ⟨es, left, ⟨es2, clock, since, seen, c0, (hb b (.inl rfl)).trans e1, F, e2, e3, (hb r (.inr rfl)).trans e4, q⟩, q2⟩
theorem RangeO.lt {r cnt : Nat} {ds : List (Lit × Value)} (h : RangeO w P K o r f n ds cnt) : r < w.heap.size := by
  cases o with
  | none => exact (Array.getElem?_eq_some_iff.1 h.1).1
  | some b => exact RangeF.ne h |>.2
theorem RangeO.mapO {r cnt : Nat} {ds : List (Lit × Value)} (h : RangeO w P K o r f n ds cnt) : MapO w P K o f n := by
  cases o with
  | none => exact ⟨h.2.1, h.2.2.1⟩
  | some b => exact RangeF.mapF h
theorem RangeO.below {r cnt : Nat} {ds : List (Lit × Value)} (h : RangeO w P K o r f n ds cnt) (hb : Below w.heap.size w w') : RangeO w' P K o r f n ds cnt :=
  h.kept hb.size ⟨hb.os, hb.tape, hb.output⟩ fun b e => hb.block b (by
    rcases e with e | rfl
    · exact h.mapO.lt b e
    · exact h.lt)
theorem run_next_nil {r : Nat} (h : w.heap[r]? = some (.mapIter none 0 #[] 0)) (ty : TypeId) : (Instr.next (.pointer (some ⟨r, 0, none⟩)) false ty).run P w = .ok (.tuple #[.bool false]) w := by
  have hg : (getObj r).run P w = .ok (.mapIter none 0 #[] 0) w := by simp [getObj, Sem.run, h]
  simp [Instr.next, hg, Result.andThen]

theorem wpList_o_range (hg : op.guard = none) (m : Operand) (t : TypeId) (hop : op.op = Op.range t m) (e : TypeId) (L : Keyed P K) (ht : P.underlying t = some (.map K e)) (hown : MapO w P K o f n) (hm : a.eval m = .map o)
    (hK : ∀ w', RangeO w' P K o w.heap.size f n [] n → Below w.heap.size w w' → w'.heap.size = w.heap.size + 1 → wpList P ops Q rest (a.put op.dst (.pointer (some ⟨w.heap.size, 0, none⟩))) w') : wpList P ops Q (op :: rest) a w := by
  cases o with
  | none =>
    refine wpList_plain hg fun K' hK' => ?_
    have hrun : (Instr.range t (.map none)).run P w = .ok (.pointer (some ⟨w.heap.size, 0, none⟩)) (w.alloc (.mapIter none 0 #[] 0)) := by
      simp [Instr.range, run_underlying ht, go_sem, Result.andThen]
    unfold Oper.wp
    simp [execOp, hop, hm, hrun, Result.andThen]
    refine hK' _ _ (hK _ ⟨heap_alloc_new _ _, hown.1, hown.2, rfl, hown.1⟩ ((Below.refl _ _).alloc (Nat.le_refl _) _) (by simp))
  | some b => exact wpList_f_range hg m t hop e L ht hown hm hK

theorem wpList_o_next (hg : op.guard = none) (it : Operand) (hop : op.op = Op.next it false) (L : Keyed P K) {r cnt : Nat} {ds : List (Lit × Value)} (h : RangeO w P K o r f n ds cnt) (hit : a.eval it = .pointer (some ⟨r, 0, none⟩))
    (hDone : cnt = 0 → Whole f ds → wpList P ops Q rest (a.put op.dst (.tuple #[.bool false])) w)
    (hMore : ∀ (key v : Value) (kl : Lit) (w' : World) (cnt' : Nat), keyOf P K key = some kl → f kl = some v → (kl ∉ ds.map (·.1)) → RangeO w' P K o r f n (ds ++ [(kl, v)]) cnt' → cnt' < cnt →
      w.grownBy w' (some r) → w'.heap.size = w.heap.size → (Instr.entry (.pointer (some ⟨r, 0, none⟩))).run P w' = .ok (.tuple #[key, v]) w' → wpList P ops Q rest (a.put op.dst (.tuple #[.bool true, key, v])) w') : wpList P ops Q (op :: rest) a w := by
  cases o with
  | none =>
    refine wpList_plain hg fun K' hK' => ?_
    obtain ⟨h1, h2, h3, rfl, h5⟩ := h
    have hrun := run_next_nil (P := P) h1 op.type
    unfold Oper.wp
    simp [execOp, hop, hit, hrun, Result.andThen]
    exact hK' _ _ (hDone h5 ⟨List.Pairwise.nil, fun p hp => (by cases hp), fun k hk v hv => (by rw [h3 k hk] at hv; cases hv)⟩)
  | some b => exact wpList_f_next hg it hop L h hit hDone hMore
end

end Go.Proofs.YtipajekehbpghaaGreatDoor

namespace Go.Proofs.YtipajekehbpghaaGreatDoor
open Go.RowKit Go.Maps

theorem MapF.entry {P : Program} {K t e : TypeId} {w : World} {b n : Nat} {f : Lit → Option Value} (h : MapF w P K b f n) (L : Keyed P K) (ht : P.underlying t = some (.map K e)) {z : Value} (hz : ∀ w, (zeroValue e).run P w = .ok z w) (hn : n < maxLen)
    {key : Value} {kl : Lit} (hkey : keyOf P K key = some kl) (hnone : f kl = none) (v : Value) :
    ∃ (st : Int) (w1 w2 : World), (Instr.mapEntry t (.map (some b)) key).run P w = .ok (.tuple #[z, .int .i64 st]) w1 ∧ (Instr.entryStore t (.map (some b)) (.int .i64 st) v).run P w1 = .ok () w2 ∧ MapF w2 P K b (setF f kl v) (n + 1) ∧
      w.grownBy w1 (some b) ∧ w1.grownBy w2 (some b) ∧ w1.heap.size = w.heap.size ∧ w2.heap.size = w.heap.size := by
  have hlk := h.look_ok L ht hz hkey hnone
  obtain ⟨w', hup, hm', hg', hs'⟩ := h.store L ht hn hkey v
  obtain ⟨D, ⟨es, clock, hb, F, hs, hD⟩, _, _⟩ := h
  have hlt : b < w.heap.size := (Array.getElem?_eq_some_iff.1 hb).1
  rcases L.find w hkey es.toList F.keys with ⟨h1, h2⟩ | ⟨j, e0, h1, h2, h3⟩
  · have hb1 : ({ w with heap := w.heap.setIfInBounds b (.map (es.push ⟨key, z, clock⟩) (clock + 1)) } : World).heap[b]? = some (.map (es.push ⟨key, z, clock⟩) (clock + 1)) := by
      simp [hlt]
    have hup2 : (Instr.mapUpdate t (.map (some b)) key v).run P w = .ok () { w with heap := w.heap.setIfInBounds b (.map (es.push ⟨key, v, clock⟩) (clock + 1)) } := by
      simp [Instr.mapUpdate, run_underlying ht, MapKept.run_getObj_map hb, L.check w false hkey, h1, MapKept.run_setObj_map _ hb, Result.andThen]
    rw [hup2] at hup
    injection hup with _ hw
    have hfi : (es.push ⟨key, z, clock⟩).findIdx? (fun e => (e.born : Int) == (clock : Int)) = some es.size := by
      rw [Array.findIdx?_push]
      have hno : es.findIdx? (fun e => (e.born : Int) == (clock : Int)) = none := by
        rw [Array.findIdx?_eq_none_iff]
        intro x hx
        have := F.stamped.1 x (by simpa using hx)
        exact beq_eq_false_iff_ne.2 (by omega)
      rw [hno]
      simp
    have hmod : (es.push ⟨key, z, clock⟩).modify es.size (fun e => { e with val := v }) = es.push ⟨key, v, clock⟩ := by
      apply Array.ext_getElem?
      intro i
      rw [Array.getElem?_modify]
      by_cases hi : es.size = i
      · subst hi; simp
      · rw [if_neg hi, Array.getElem?_push, Array.getElem?_push, if_neg (fun e => hi e.symm), if_neg (fun e => hi e.symm)]
    refine ⟨clock, { w with heap := w.heap.setIfInBounds b (.map (es.push ⟨key, z, clock⟩) (clock + 1)) }, { w with heap := (w.heap.setIfInBounds b (.map (es.push ⟨key, z, clock⟩) (clock + 1))).setIfInBounds b (.map (es.push ⟨key, v, clock⟩) (clock + 1)) }, ?_, ?_, ?_, ?_, ?_, ?_, ?_⟩
    rotate_left 1
    · simp only [Instr.entryStore]
      simp [MapKept.run_getObj_map hb1, asInt, asIntOf, hfi, hmod, MapKept.run_setObj_map _ hb1, Result.andThen]
    · rw [hnone] at hm'
      refine hm'.same_block ?_
      rw [← hw]
      simp [hlt]
    rotate_left 4
    · simp [Instr.mapEntry, run_underlying ht, MapKept.run_getObj_map hb, L.check w false hkey, h1, hz, MapKept.run_setObj_map _ hb, Result.andThen, goInt]
    · refine ⟨rfl, rfl, rfl, by simp, fun k hk hne => ?_⟩
      have : b ≠ k := fun e => hne (by rw [e])
      simp [Array.getElem?_setIfInBounds, this]
    · refine ⟨rfl, rfl, rfl, by simp, fun k hk hne => ?_⟩
      have : b ≠ k := fun e => hne (by rw [e])
      simp [Array.getElem?_setIfInBounds, this]
    · simp
    · simp
  · exfalso
    have : (Instr.lookup t (.map (some b)) key true).run P w = .ok (.tuple #[e0.val, .bool true]) w := by
      simp [Instr.lookup, run_underlying ht, MapKept.run_getObj_map hb, L.check w _ hkey, h1, Result.andThen]
    rw [hlk] at this
    simp at this

end Go.Proofs.YtipajekehbpghaaGreatDoor

namespace Go.Proofs.YtipajekehbpghaaGreatDoor
open Go.RowKit Go.Maps Tre

/-- A file's value, and its cells. -/
def ndc (n : Nd) : Array Value := #[.int .u8 n.kind, .int .i64 n.mode, .int .i64 n.uid, .int .i64 n.gid, .int .i64 n.sec, .int .i64 n.nano, .string (bs n.data), .string (bs n.link), .int .i64 n.major, .int .i64 n.minor]
def ndv (n : Nd) : Value := .agg (ndc n)
def namesF (E : List (Pth.Bs × Nat)) : Lit → Option Value := strF fun s => (Tre.look E s).map fun (k : Nat) => Value.int .i64 (k : Int)
def filesF (fl : Nat → Option Nd) : Lit → Option Value := intF fun i => if 0 ≤ i then (fl i.toNat).map ndv else none
def errV (c : Int) : Value := if c = 0 then .nilIface else .iface 89 (.int .i64 c)

theorem ndZero : ∀ w, (zeroValue 33).run Tryz.prog w = .ok (ndv zero) w := fun w => by kernel_rfl
theorem intZero : ∀ w, (zeroValue 3).run Tryz.prog w = .ok (.int .i64 0) w := fun w => by kernel_rfl
theorem strK (s : ByteArray) (h : s.size ≤ maxLen) : keyOf Tryz.prog 9 (.string s) = some (.string s.data.toList) := WideMaps.keyOf_string_mk Tryz.underlying9 h
theorem natK (i : Nat) (h : i ≤ 1000000) : keyOf Tryz.prog 3 (.int .i64 i) = some (.int .i64 i) :=
  keyOf_int_mk Tryz.underlying3 (by simp [Lit.wf, IntKind.min, IntKind.max, IntKind.signed, IntKind.bits]; omega)
theorem strL : Keyed Tryz.prog 9 := string_keyed Tryz.underlying9
theorem intL : Keyed Tryz.prog 3 := int_keyed Tryz.underlying3
theorem namesF_at (E : List (Pth.Bs × Nat)) (s : List UInt8) : namesF E (.string s) = (Tre.look E s).map fun (k : Nat) => Value.int .i64 (k : Int) := rfl
theorem filesF_at (fl : Nat → Option Nd) (k : Nat) : filesF fl (.int .i64 k) = (fl k).map ndv := by
  show (if (0 : Int) ≤ (k : Int) then (fl (k : Int).toNat).map ndv else none) = _
  rw [if_pos (by omega)]; rfl
theorem files_get (t : T) (k : Nat) : (filesF t.fl (.int .i64 k)).getD (ndv zero) = ndv (t.file k) := by
  rw [filesF_at]; unfold T.file
  cases t.fl k <;> rfl

/-- Block g is a tree; own are its blocks. -/
structure TreeAt (w : World) (g : Nat) (on : Option Nat) (of : Option Nat) (t : T) : Prop where
  blk : Blk w g 71 #[.map on, .map of, .int .i64 t.nx]
  nm : MapO w Tryz.prog 9 on (namesF t.ents) t.ents.length
  fl : ∃ nf, MapO w Tryz.prog 3 of (filesF t.fl) nf ∧ nf ≤ t.nx
  both : on = none ↔ of = none
  ne : ∀ b, on = some b → of ≠ some b
def own (g : Nat) (on of : Option Nat) : List Nat := g :: (on.toList ++ of.toList)

section
variable {w w' : World} {g : Nat} {on of : Option Nat} {t : T}
theorem TreeAt.lt (h : TreeAt w g on of t) : ∀ b ∈ own g on of, b < w.heap.size := fun b hb => by
  obtain ⟨nf, hf, _⟩ := h.fl
  rcases List.mem_cons.1 hb with rfl | hb
  · exact h.blk.lt
  · rcases List.mem_append.1 hb with hb | hb
    · exact h.nm.lt b (by simpa [eq_comm] using hb)
    · exact hf.lt b (by simpa [eq_comm] using hb)
theorem TreeAt.kept (h : TreeAt w g on of t) (hs : w.heap.size ≤ w'.heap.size) (hb : ∀ b ∈ own g on of, w'.heap[b]? = w.heap[b]?) : TreeAt w' g on of t := by
  obtain ⟨nf, hf, hn⟩ := h.fl
  refine ⟨(hb g (by simp [own])).trans h.blk, h.nm.kept hs fun b e => hb b (by simp [own, e]), ⟨nf, hf.kept hs fun b e => hb b (by simp [own, e]), hn⟩, h.both, h.ne⟩
theorem TreeAt.below (h : TreeAt w g on of t) (hb : Below w.heap.size w w') : TreeAt w' g on of t := h.kept hb.size fun b hm => hb.block b (h.lt b hm)
theorem TreeAt.drew (h : TreeAt w g on of t) : TreeAt w.drew g on of t := h.kept (Nat.le_refl _) fun b _ => rfl
theorem TreeAt.alloc (h : TreeAt w g on of t) (o : Obj) : TreeAt (w.alloc o) g on of t := h.kept (by simp) fun b hm => Below.heap_alloc w o b (h.lt b hm)
end

set_option maxRecDepth 100000 in
theorem of_any (g : Nat) (w : World) {cs : Array Value} (h : Blk w g 71 cs) : Calls Tryz.prog 53 #[.pointer (some ⟨g, 0, none⟩)] w fun e w' => e = .returned (.pointer (some ⟨g, 0, none⟩)) ∧ w' = w := by
  go_enter Tryz.func53, Tryz.ntmps53
  go_wp2_with fail
  go_ret
  exact ⟨rfl, rfl⟩

set_option maxRecDepth 100000 in
theorem thas_any {w : World} {g : Nat} {on of : Option Nat} {t : T} (h : TreeAt w g on of t) (s : ByteArray) (hs : s.size ≤ 1000000) :
    Calls Tryz.prog 69 #[.pointer (some ⟨g, 0, none⟩), .string s] w fun e w' => e = .returned (.bool (t.has s.data.toList)) ∧ w' = w := by
  have c0 := h.blk.cell 0
  have HM := Lib.hid h.nm
  have hk := strK s (by unfold maxLen; omega)
  have e : T.has t s.data.toList = (namesF t.ents (.string s.data.toList)).isSome := by
    rw [namesF_at, Option.isSome_map]; rfl
  rw [e]
  clear h e
  go_enter Tryz.func69, Tryz.ntmps69
  go_wp2_with (first
    | (refine wpList_o_look_ok rfl (.tmp 11) (.tmp 12) 68 rfl 3 strL Tryz.underlying68 intZero HM.out rfl (.string s) (.string s.data.toList) rfl hk (namesF t.ents (.string s.data.toList)) rfl ?_))
  go_ret
  exact ⟨rfl, rfl⟩

set_option maxRecDepth 100000 in
theorem alike_any {w : World} {g : Nat} {on of : Option Nat} {t : T} (h : TreeAt w g on of t) (a b : ByteArray) (ha : a.size ≤ 1000000) (hb : b.size ≤ 1000000) :
    Calls Tryz.prog 32 #[.pointer (some ⟨g, 0, none⟩), .string a, .string b] w fun e w' => e = .returned (.bool (t.alike a.data.toList b.data.toList)) ∧ w' = w := by
  have c0 := h.blk.cell 0
  have OF := Lib.hid (of_any g w h.blk)
  have HM := Lib.hid h.nm
  have hka := strK a (by unfold maxLen; omega)
  have hkb := strK b (by unfold maxLen; omega)
  have ea := namesF_at t.ents a.data.toList
  have eb := namesF_at t.ents b.data.toList
  have e : t.alike a.data.toList b.data.toList = match Tre.look t.ents a.data.toList, Tre.look t.ents b.data.toList with | some i, some k => i == k | _, _ => false := rfl
  rw [e]
  obtain ⟨ra, hra⟩ : ∃ r, r = Tre.look t.ents a.data.toList := ⟨_, rfl⟩
  obtain ⟨rb, hrb⟩ : ∃ r, r = Tre.look t.ents b.data.toList := ⟨_, rfl⟩
  rw [← hra] at ea ⊢
  rw [← hrb] at eb ⊢
  have EA := Lib.hid ea
  have EB := Lib.hid eb
  clear h e ea eb hra hrb
  cases ra with
  | none =>
    go_enter Tryz.func32, Tryz.ntmps32
    go_wp2_with fail
    refine OF.out.mono ?_
    rintro e w' ⟨rfl, hw⟩
    subst hw
    go_wp2_with (first
      | (refine wpList_o_look_ok rfl (.tmp 17) (.tmp 18) 68 rfl 3 strL Tryz.underlying68 intZero HM.out rfl (.string a) (.string a.data.toList) rfl hka none EA.out ?_)
      | (refine wpList_o_look_ok rfl (.tmp 26) (.tmp 27) 68 rfl 3 strL Tryz.underlying68 intZero HM.out rfl (.string b) (.string b.data.toList) rfl hkb _ EB.out ?_))
    go_ret
    exact ⟨rfl, rfl⟩
  | some i =>
    cases rb with
    | none =>
      go_enter Tryz.func32, Tryz.ntmps32
      go_wp2_with fail
      refine OF.out.mono ?_
      rintro e w' ⟨rfl, hw⟩
      subst hw
      go_wp2_with (first
        | (refine wpList_o_look_ok rfl (.tmp 17) (.tmp 18) 68 rfl 3 strL Tryz.underlying68 intZero HM.out rfl (.string a) (.string a.data.toList) rfl hka _ EA.out ?_)
        | (refine wpList_o_look_ok rfl (.tmp 26) (.tmp 27) 68 rfl 3 strL Tryz.underlying68 intZero HM.out rfl (.string b) (.string b.data.toList) rfl hkb none EB.out ?_))
      go_ret
      exact ⟨rfl, rfl⟩
    | some k =>
      obtain ⟨q, hq⟩ : ∃ q : Bool, q = ((i : Int) == (k : Int)) := ⟨_, rfl⟩
      have e2 : (i == k) = q := by
        rw [hq]
        by_cases e : i = k
        · subst e; simp
        · rw [beq_eq_false_iff_ne.2 e, beq_eq_false_iff_ne.2 (by omega)]
      simp only [e2]
      have e3 : ((i : Int) == (k : Int)) = q := hq.symm
      clear hq e2
      go_enter Tryz.func32, Tryz.ntmps32
      go_wp2_with fail
      refine OF.out.mono ?_
      rintro e w' ⟨rfl, hw⟩
      subst hw
      go_wp2_with (first
        | (refine wpList_o_look_ok rfl (.tmp 17) (.tmp 18) 68 rfl 3 strL Tryz.underlying68 intZero HM.out rfl (.string a) (.string a.data.toList) rfl hka _ EA.out ?_)
        | (refine wpList_o_look_ok rfl (.tmp 26) (.tmp 27) 68 rfl 3 strL Tryz.underlying68 intZero HM.out rfl (.string b) (.string b.data.toList) rfl hkb _ EB.out ?_))
      go_ret
      exact ⟨rfl, rfl⟩

/-- What Get returns. -/
def getV (t : T) (s : Pth.Bs) : Value := match Tre.look t.ents s with
  | some k => .tuple #[ndv (t.file k), .nilIface]
  | none => .tuple #[ndv zero, .iface 89 (.int .i64 7)]

set_option maxRecDepth 100000 in
theorem get_any {w : World} {g : Nat} {on of : Option Nat} {t : T} (h : TreeAt w g on of t) (s : ByteArray) (hn : ∀ k, Tre.look t.ents s.data.toList = some k → k ≤ 1000000) (hs : s.size ≤ 1000000) :
    Calls Tryz.prog 18 #[.pointer (some ⟨g, 0, none⟩), .string s] w fun e w' => e = .returned (getV t s.data.toList) ∧ Below w.heap.size w w' := by
  have hg := h.blk.lt
  have c0 := h.blk.cell 0
  have c1 := h.blk.cell 1
  obtain ⟨nf, hf, _⟩ := h.fl
  have HM := Lib.hid h.nm
  have HF := Lib.hid hf
  have HB := Lib.hid h.blk
  have hks := strK s (by unfold maxLen; omega)
  have es := namesF_at t.ents s.data.toList
  unfold getV
  obtain ⟨r, hr⟩ : ∃ r, r = Tre.look t.ents s.data.toList := ⟨_, rfl⟩
  rw [← hr] at es hn ⊢
  have ES := Lib.hid es
  clear h es hr hf
  cases r with
  | none =>
    go_enter Tryz.func18, Tryz.ntmps18
    go_wp2_with fail
    refine (of_any _ _ (HB.out.alloc _)).mono ?_
    rintro e w' ⟨rfl, hw⟩
    subst hw
    go_wp2_with (first
      | (refine wpList_o_look_ok rfl (.tmp 14) (.tmp 15) 68 rfl 3 strL Tryz.underlying68 intZero (HM.out.alloc _) rfl (.string s) (.string s.data.toList) rfl hks none ES.out ?_))
    exact bodyPost_ret (v := .tuple #[.agg #[.int .u8 0, .int .i64 0, .int .i64 0, .int .i64 0, .int .i64 0, .int .i64 0, .string ⟨#[]⟩, .string ⟨#[]⟩, .int .i64 0, .int .i64 0], .iface 89 (.int .i64 7)]) (by simp [results, Tryz.results18, go_sem]) rfl ⟨rfl, (Below.refl _ _).alloc (Nat.le_refl _) _⟩
  | some k =>
    have hk := natK k (hn k rfl)
    have hget := files_get t k
    obtain ⟨n, hN⟩ : ∃ n, n = t.file k := ⟨_, rfl⟩
    rw [← hN] at hget
    simp only [← hN]
    obtain ⟨n0, n1, n2, n3, n4, n5, n6, n7, n8, n9⟩ := n
    have HG := Lib.hid hget
    clear hget hN hn
    go_enter Tryz.func18, Tryz.ntmps18
    go_wp2_with fail
    refine (of_any _ _ (HB.out.alloc _)).mono ?_
    rintro e w' ⟨rfl, hw⟩
    subst hw
    go_wp2_with (first
      | (refine wpList_o_look_ok rfl (.tmp 14) (.tmp 15) 68 rfl 3 strL Tryz.underlying68 intZero (HM.out.alloc _) rfl (.string s) (.string s.data.toList) rfl hks _ ES.out ?_)
      | (refine wpList_o_look rfl (.tmp 26) (.tmp 27) 69 rfl 33 intL Tryz.underlying69 ndZero (HF.out.alloc _) rfl (.int .i64 k) (.int .i64 k) rfl hk _ rfl ?_; rw [HG.out]; unfold ndv ndc))
    exact bodyPost_ret (v := .tuple #[.agg #[.int .u8 n0, .int .i64 n1, .int .i64 n2, .int .i64 n3, .int .i64 n4, .int .i64 n5, .string (bs n6), .string (bs n7), .int .i64 n8, .int .i64 n9], .nilIface]) (by simp [results, Tryz.results18, go_sem]) rfl ⟨rfl, (Below.refl _ _).alloc (Nat.le_refl _) _⟩

set_option maxRecDepth 100000 in
theorem isDir_any {w : World} {g : Nat} {on of : Option Nat} {t : T} (h : TreeAt w g on of t) (s : ByteArray) (hn : ∀ k, Tre.look t.ents s.data.toList = some k → k ≤ 1000000) (hs : s.size ≤ 1000000) :
    Calls Tryz.prog 118 #[.pointer (some ⟨g, 0, none⟩), .string s] w fun e w' => e = .returned (.bool (t.isDir s.data.toList)) ∧ Below w.heap.size w w' := by
  have hg := get_any h s hn hs
  have e : t.isDir s.data.toList = match Tre.look t.ents s.data.toList with | some k => (t.file k).kind == 53 | none => false := by
    unfold T.isDir T.isKind T.get
    cases Tre.look t.ents s.data.toList <;> rfl
  rw [e]
  unfold getV at hg
  obtain ⟨r, hr⟩ : ∃ r, r = Tre.look t.ents s.data.toList := ⟨_, rfl⟩
  rw [← hr] at hg ⊢
  clear e h hn hr
  cases r with
  | none =>
    simp only at hg ⊢
    unfold ndv ndc zero at hg
    have G := Lib.hid hg
    clear hg
    go_enter Tryz.func118, Tryz.ntmps118
    go_wp2_with fail
    refine G.out.mono ?_
    rintro e w1 ⟨rfl, h1⟩
    have B1 := Lib.hid h1
    clear h1
    go_wp2_with fail
    go_ret
    exact ⟨rfl, B1.out.alloc B1.out.size _⟩
  | some k =>
    simp only at hg ⊢
    obtain ⟨n, hN⟩ : ∃ n, n = t.file k := ⟨_, rfl⟩
    rw [← hN] at hg ⊢
    obtain ⟨n0, n1, n2, n3, n4, n5, n6, n7, n8, n9⟩ := n
    unfold ndv ndc at hg
    simp only at hg ⊢
    obtain ⟨q, hq⟩ : ∃ q : Bool, q = ((n0 : Int) == 53) := ⟨_, rfl⟩
    have e2 : (n0 == 53) = q := by
      rw [hq]
      by_cases e : n0 = 53
      · subst e; rfl
      · rw [beq_eq_false_iff_ne.2 e, beq_eq_false_iff_ne.2 (by omega)]
    have e3 := hq.symm
    rw [e2]
    have G := Lib.hid hg
    clear hg hN hq e2
    go_enter Tryz.func118, Tryz.ntmps118
    go_wp2_with fail
    refine G.out.mono ?_
    rintro e w1 ⟨rfl, h1⟩
    have B1 := Lib.hid h1
    clear h1
    go_wp2_with fail
    go_ret
    exact ⟨rfl, B1.out.alloc B1.out.size _⟩

end Go.Proofs.YtipajekehbpghaaGreatDoor

namespace Go.Proofs.YtipajekehbpghaaGreatDoor
open Go.RowKit Go.Shelf Go.Lib Go.Sort

/-- What strings.Index asks of the world: its table's bound is there. -/
def ML (w : World) : Prop := ∃ m, w.cell? ⟨1, 0, none⟩ = some (.int .i64 m)
theorem ML.lt {w : World} (h : ML w) : 1 < w.heap.size := by
  obtain ⟨m, h⟩ := h
  exact World.block_lt_of_cell? w ⟨1, 0, none⟩ h
theorem ML.below {w w' : World} (h : ML w) (hb : Below w.heap.size w w') : ML w' := by
  have hl := h.lt
  obtain ⟨m, h⟩ := h
  exact ⟨m, (hb.cell (p := ⟨1, 0, none⟩) hl).trans h⟩

theorem ml_of_shape {w : World} (h : w.ShapedOpen Tryz.prog) : ML w := by first | exact Tryz.laysM146.s1_3 w h | exact Tryz.laysM143.s1_3 w h | exact Tryz.laysM219.s1_3 w h

theorem str_list (x : ByteArray) : x.toList = x.data.toList := toList_data x

theorem drop_any (x : ByteArray) (w : World) : FnGives Tryz.prog 108 #[] #[.string x] (.bool (!Pth.keep x.data.toList)) w := by
  show Calls Tryz.prog 108 #[.string x] w _
  go_enter Tryz.func108, Tryz.ntmps108
  go_wp2
  all_goals
    go_ret
    refine ⟨?_, 0, rfl⟩
    simp_all [Pth.keep, str_list]

theorem split_named (s : ByteArray) (w : World) (hs : s.size ≤ 4000000) (hm : ML w) :
    ∃ xs : List ByteArray, xs.map (·.data.toList) = Pth.split s.data.toList ∧
      Calls Tryz.prog 107 #[.string s, .string ⟨#[47]⟩] w fun e w' => e = .returned (.slice (some ⟨w.heap.size, 0, none⟩) xs.length xs.length) ∧ w' = w.alloc (.cells (xs.map Value.string).toArray 9) := by
  obtain ⟨m, hm⟩ := hm
  have h := Tryz.strings_Split s ⟨#[47]⟩ m w (by omega) hm (by decide)
  have h1 := splitB_data (⟨#[47]⟩ : ByteArray) 0 (countB s ⟨#[47]⟩) s
  have h2 := Pth.lib_split s.data.toList
  have h3 : (splitB (⟨#[47]⟩ : ByteArray) 0 (countB s ⟨#[47]⟩) s).length = countB s ⟨#[47]⟩ + 1 := splitB_all ⟨#[47]⟩ (by decide) 0 _ s rfl
  refine ⟨splitB (⟨#[47]⟩ : ByteArray) 0 (countB s ⟨#[47]⟩) s, h1.trans h2, ?_⟩
  rw [h3]
  exact h

theorem delete_named (xs : List ByteArray) (w : World) (hl : xs.length ≤ 9223372036854775807) :
    Calls Tryz.prog 82 #[.slice (some ⟨w.heap.size, 0, none⟩) xs.length xs.length, .func (.func 108) #[] #[]] (w.alloc (.cells (xs.map Value.string).toArray 9))
      fun e w' => ∃ cap, e = .returned (.slice (some ⟨w.heap.size, 0, none⟩) ((xs.map (·.data.toList)).filter Pth.keep).length cap) ∧ ((xs.map (·.data.toList)).filter Pth.keep).length ≤ cap ∧ w.heap.size < w'.heap.size ∧ RowS w' w.heap.size 0 ((xs.map (·.data.toList)).filter Pth.keep) ∧ Below w.heap.size w w' := by
  obtain ⟨W, hW⟩ : ∃ W, W = w.alloc (.cells (xs.map Value.string).toArray 9) := ⟨_, rfl⟩
  have hH : Holds Value.string W w.heap.size 0 xs.toArray := fun j hj => by
    have hj' : j < xs.length := by simpa using hj
    rw [hW]
    constructor
    · rw [(Blk.new w _ _).cell]; simp [hj']
    · exact (Blk.new w _ _).frozen _
  have hsz : W.heap.size = w.heap.size + 1 := by rw [hW]; simp
  have hBw : Below w.heap.size w W := by rw [hW]; exact (Below.refl _ _).alloc (Nat.le_refl _) _
  have h := Tryz.slices_DeleteFunc Value.string (fun _ => rfl) (fun x => !Pth.keep x.data.toList) 108 #[] (enters_of Tryz.func108 (by kernel_rfl) rfl) ByteArray.empty Tryz.zeroValue9
    w.heap.size 0 xs.length xs.toArray W (fun W' x _ => drop_any x W') (fun n os dk x _ => drop_any x _) hH (by simpa using hl) (by simp)
  rw [← hW]
  have hsx : xs.toArray.size = xs.length := by simp
  rw [hsx] at h
  have hnot : (fun x : ByteArray => !!Pth.keep x.data.toList) = fun x => Pth.keep x.data.toList := by funext x; simp
  rw [hnot] at h
  obtain ⟨ys, hys⟩ : ∃ ys, ys = xs.filter (fun x => Pth.keep x.data.toList) := ⟨_, rfl⟩
  have hyl : ys.length ≤ xs.length := by rw [hys]; exact List.length_filter_le _ _
  have hym : ys.map (·.data.toList) = (xs.map (·.data.toList)).filter Pth.keep := by rw [hys, List.filter_map]; rfl
  rw [← hym]
  refine h.mono fun e w' ⟨he, q, hw⟩ => ?_
  subst he
  have hxs : xs.toArray.toList = xs := by simp
  rw [hxs, ← hys] at hw
  obtain ⟨D, hD⟩ : ∃ D, D = (ys ++ List.replicate (xs.length - ys.length) ByteArray.empty).toArray := ⟨_, rfl⟩
  rw [← hD] at hw
  have hDs : D.size = xs.toArray.size := by rw [hD]; simp; omega
  have hH2 : Holds Value.string (Sort.ahead W q) w.heap.size 0 xs.toArray := hH
  have hDk : ∀ j (hj : j < ys.length), D[j]! = ys[j] := fun j hj => by
    rw [getElem!_pos D j (by rw [hDs]; simp; omega)]
    simp only [hD, List.getElem_toArray, List.getElem_append_left hj]
  have hbelow : Below w.heap.size w w' := by
    rw [hw]
    refine ⟨hBw.os, hBw.tape, hBw.output, ?_, fun i hi => ?_⟩
    · rw [size_putRow]; exact hBw.size
    · have : (putRow Value.string (Sort.ahead W q) w.heap.size 0 D).heap[i]? = (Sort.ahead W q).heap[i]? := by
        unfold putRow mapBlock
        rw [Array.getElem?_modify, if_neg (by omega)]
      rw [this]; exact hBw.block i hi
  have hlen : (xs.toArray.toList.filter (fun x => Pth.keep x.data.toList)).length = (ys.map (·.data.toList)).length := by rw [hxs, ← hys]; simp
  rw [hlen]
  refine ⟨_, rfl, by simpa using hyl, ?_, fun j hj => ?_, hbelow⟩
  · rw [hw, size_putRow]; show w.heap.size < W.heap.size; omega
  · have hj' : j < ys.length := by simpa using hj
    rw [hw, cell?_putRow Value.string (Sort.ahead W q) w.heap.size 0 xs.toArray D hH2 hDs j (by rw [hDs]; simp; omega), hDk j hj', List.getElem_map, bs_of]

theorem parts_row (s : ByteArray) (w : World) (hs : s.size ≤ 4000000) (hm : ML w) :
    Calls Tryz.prog 62 #[.string s] w fun e w' => ∃ b cap, e = .returned (.slice (some ⟨b, 0, none⟩) (Pth.parts s.data.toList).length cap) ∧ (Pth.parts s.data.toList).length ≤ cap ∧ w.heap.size ≤ b ∧ b < w'.heap.size ∧ RowS w' b 0 (Pth.parts s.data.toList) ∧ Below w.heap.size w w' := by
  obtain ⟨xs, hxs, hc⟩ := split_named s w hs hm
  have hl : xs.length ≤ 9223372036854775807 := by
    have := Pth.split_len s.data.toList
    rw [← hxs, List.length_map, list_size] at this
    omega
  have hd := delete_named xs w hl
  rw [hxs] at hd
  have HD := Lib.hid hd
  have HC := Lib.hid hc
  clear hd hc hxs hl hm
  go_enter Tryz.func62, Tryz.ntmps62
  go_wp2_with fail
  refine HC.out.mono ?_
  rintro e w1 ⟨rfl, rfl⟩
  go_wp2_with fail
  refine HD.out.mono ?_
  rintro e w2 ⟨cap, rfl, h0, h1, h2, h3⟩
  have H0 := Lib.hid h0
  have H1 := Lib.hid h1
  have H2 := Lib.hid h2
  have H3 := Lib.hid h3
  clear h0 h1 h2 h3
  go_wp2_with fail
  go_ret
  exact ⟨_, cap, rfl, H0.out, Nat.le_refl _, H1.out, H2.out, H3.out⟩
theorem parts_any (s : ByteArray) (w : World) (hs : s.size ≤ 4000000) (hm : ML w) :
    Calls Tryz.prog 62 #[.string s] w fun e w' => ∃ v, e = .returned v ∧ HasS w' w.heap.size v (Pth.parts s.data.toList) ∧ Below w.heap.size w w' :=
  (parts_row s w hs hm).mono fun _ _ ⟨_, _, he, h0, h1, h2, h3, h4⟩ => ⟨_, he, HasS.row h1 h2 h0 h3, h4⟩

end Go.Proofs.YtipajekehbpghaaGreatDoor

namespace Go.Proofs.YtipajekehbpghaaGreatDoor
open Go.RowKit

/-- The cells of a row of texts. -/
def cellsS (L : List Pth.Bs) : List Value := L.map fun p => Value.string (bs p)
theorem cellsS_snoc (L : List Pth.Bs) (p : Pth.Bs) : cellsS L ++ [.string (bs p)] = cellsS (L ++ [p]) := by unfold cellsS; simp
theorem owns_has {W : World} {B : Nat} {v : Value} {L : List Pth.Bs} (h : W.ownsRow B 9 1 v L.length (cellsS L)) : HasS W B v L := by
  obtain ⟨_, h⟩ := h
  rcases h with ⟨rfl, h0⟩ | ⟨g, cap, cur, rfl, hB, hh, hc, _, hs, ht⟩
  · rw [List.length_eq_zero_iff.1 h0]; exact HasS.nil _ _ _ _
  · refine HasS.row hB ?_ hc (fun j hj => ?_)
    · rcases Nat.lt_or_ge g W.heap.size with hlt | hge
      · exact hlt
      · rw [Array.getElem?_eq_none hge] at hh; cases hh
    · rw [cell_of_row W g (0 + j) cur _ (0, 0) hh]
      have h1 : (cur.toList.take (L.length * 1))[j]? = some (.string (bs L[j])) := by rw [ht]; simp [cellsS, hj]
      rw [List.getElem?_take, if_pos (by omega)] at h1
      rw [Nat.zero_add]; simpa using h1
theorem owns_cut {W : World} {B g k cap : Nat} {L : List Pth.Bs} (h : W.ownsRow B 9 1 (.slice (some ⟨g, 0, none⟩) (k + 1) cap) L.length (cellsS L)) (hk : L.length = k + 1) :
    W.ownsRow B 9 1 (.slice (some ⟨g, 0, none⟩) k cap) L.dropLast.length (cellsS L.dropLast) := by
  obtain ⟨h1, h⟩ := h
  rw [hk] at h
  rcases h with ⟨hv, h0⟩ | ⟨g', cap', cur, hv, hB, hh, hc, hm, hs, ht⟩
  · cases hv
  · cases hv
    have hl : L.dropLast.length = k := by rw [List.length_dropLast]; omega
    refine ⟨by rw [hl]; simp [cellsS, hk], .inr ⟨g, cap, cur, by rw [hl], hB, hh, by omega, hm, hs, ?_⟩⟩
    have e : cellsS L.dropLast = (cellsS L).take k := by
      unfold cellsS; rw [List.dropLast_eq_take, hk, List.map_take]; rfl
    rw [e, ← ht, List.take_take, hl]; congr 1; omega
theorem owns_shape {W : World} {B : Nat} {v : Value} {L : List Pth.Bs} (h : W.ownsRow B 9 1 v L.length (cellsS L)) :
    (v = .slice none 0 0 ∧ L = []) ∨ ∃ g cap, v = .slice (some ⟨g, 0, none⟩) L.length cap ∧ L.length ≤ cap := by
  obtain ⟨_, h⟩ := h
  rcases h with ⟨hv, h0⟩ | ⟨g, cap, cur, hv, hB, hh, hc, _⟩
  · exact .inl ⟨hv, List.length_eq_zero_iff.1 h0⟩
  · exact .inr ⟨g, cap, hv, hc⟩

theorem join_any {W : World} {B : Nat} {v : Value} {L : List Pth.Bs} (h : HasS W B v L) (hL : L.length ≤ 10000000) (hlen : (Pth.join L).length ≤ 10000000) :
    Calls Tryz.prog 63 #[v, .string ⟨#[47]⟩] W fun e w' => e = .returned (.string (bs (Pth.join L))) ∧ Below W.heap.size W w' := by
  rcases h.ways with ⟨A, cap, rfl, rfl⟩ | ⟨b, off, cap, rfl, hc, _, hb, h0, hr⟩
  · exact (Tryz.strings_Join_none A cap ⟨#[47]⟩ W).mono fun e w' ⟨he, hw⟩ => ⟨he, hw ▸ Below.refl _ _⟩
  · have hm : (L.map bs).map (·.data.toList) = L := by rw [List.map_map]; exact List.map_id L
    have e : Lib.join ((L.map bs).map (·.data.toList)) (⟨#[47]⟩ : ByteArray).data.toList = Pth.join L := by rw [hm]; exact Pth.lib_join L
    have h := Tryz.strings_Join b off cap (L.map bs) ⟨#[47]⟩ W (fun j x hx => by
      rw [List.getElem?_map] at hx
      by_cases hj : j < L.length
      · rw [List.getElem?_eq_getElem hj] at hx; cases hx; exact hr j hj
      · rw [List.getElem?_eq_none (by omega)] at hx; cases hx) hb (by simp; omega) (by simp; omega) (by rw [e]; omega)
    rw [e, List.length_map] at h
    exact h

theorem infoS : (Tryz.prog.info? 9).map (fun i => (i.zero, i.size, i.bytes)) = some (some (.string ByteArray.empty), 1, 16) := by kernel_rfl

set_option maxRecDepth 100000 in
set_option maxHeartbeats 1000000 in
theorem clean_any (s : ByteArray) (w : World) (hs : s.size ≤ 2000000) (hm : ML w) :
    Calls Tryz.prog 21 #[.string s] w fun e w' => e = .returned (.tuple #[.string (bs (Pth.clean s.data.toList)), .bool (Pth.cleanOk s.data.toList)]) ∧ Below w.heap.size w w' := by
  obtain ⟨i0, i1, i2, i3, i4⟩ := info_parts infoS
  have hP := parts_any s w (by omega) hm
  have hcl := Pth.clean_len s.data.toList
  have hpl := Pth.parts_len s.data.toList
  rw [list_size] at hcl hpl
  obtain ⟨C, hC⟩ : ∃ C, C = Pth.clean s.data.toList := ⟨_, rfl⟩
  obtain ⟨ok, hok⟩ : ∃ ok, ok = Pth.cleanOk s.data.toList := ⟨_, rfl⟩
  obtain ⟨ps, hps⟩ : ∃ ps, ps = Pth.parts s.data.toList := ⟨_, rfl⟩
  have hrun : C = Pth.join (Pth.run ([], true) ps).1 ∧ ok = (Pth.run ([], true) ps).2 := by rw [hC, hok, hps]; exact ⟨rfl, rfl⟩
  rw [← hps] at hP hpl
  rw [← hC] at hcl
  rw [← hC, ← hok]
  have hps1 : ps.length ≤ 4000000 := by omega
  have hC1 : C.length ≤ 4000000 := by omega
  have HP := Lib.hid hP
  have HRUN := Lib.hid hrun
  clear hP hC hok hps hrun hcl hpl hm
  go_enter Tryz.func21, Tryz.ntmps21
  go_wp2_with fail
  refine HP.out.mono ?_
  rintro e w1 ⟨v, rfl, h1, hb1⟩
  have B1 := Lib.hid hb1
  rcases h1.ways with ⟨A, cap, rfl, rfl⟩ | ⟨b, off, cap, rfl, hc, _, hb, h0, hr⟩
  · have hj := fun w : World => join_any (HasS.nil w 0 none 0) (by simp) (by simp [Pth.join])
    have HJ := Lib.hid hj
    have e1 : C = [] := HRUN.out.1
    have e2 : ok = true := HRUN.out.2
    subst e2
    subst e1
    clear h1 hb1 hj
    go_wp2_with fail
    refine wp_loop_rounds 1 ?_
    rw [rounds_succ]
    go_wp2_with fail
    refine (HJ.out _).mono ?_
    rintro e w2 ⟨rfl, hb2⟩
    have B2 := Lib.hid (thenB B1.out hb2)
    clear hb2
    go_wp2_with fail
    go_ret2
    exact ⟨rfl, B2.out⟩
  · have HRW := Lib.hid hr
    clear h1 hb1 hr
    go_wp2_with fail
    go_loopg [4, 5, 11] (ps.length) (fun gh lv ov iv wr => ∃ (i : Nat) (L : List Pth.Bs) (o : Bool), iv = .int .i64 i ∧ i ≤ ps.length ∧ gh + i = ps.length ∧ Below w1.heap.size w1 wr ∧ wr.ownsRow w1.heap.size 9 1 lv L.length (cellsS L) ∧ ov = .bool o ∧ L.length ≤ i ∧ Pth.run (L, o) (ps.drop i) = Pth.run ([], true) ps)
    case atStart => exact ⟨0, [], true, rfl, by omega, by omega, Below.refl _ _, World.ownsRow_nil _ _ _ _, rfl, by simp, by simp⟩
    case round =>
      obtain ⟨i, L, o, rfl, hi1, hg, hbw, hown, rfl, hLi, hR⟩ := hrel
      have Hg := Lib.hid hg
      have HW := Lib.hid hbw
      have HO := Lib.hid hown
      have HR := Lib.hid hR
      clear hg hbw hown hR
      by_cases hi : i < ps.length
      · have hi3 : (i : Int) < ps.length := by omega
        have c1 := (HW.out.cell (p := ⟨b, off + i, none⟩) hb).trans (HRW.out i hi)
        obtain ⟨p, hp⟩ : ∃ p, p = ps[i] := ⟨_, rfl⟩
        rw [← hp] at c1
        have hdr : ps.drop i = p :: ps.drop (i + 1) := by rw [hp]; exact List.drop_eq_getElem_cons hi
        have hR2 : Pth.run (Pth.step (L, o) p) (ps.drop (i + 1)) = Pth.run ([], true) ps := by rw [← HR.out, hdr]; rfl
        obtain ⟨X, hX⟩ : ∃ X, X = bs p := ⟨_, rfl⟩
        rw [← hX] at c1
        have hXp : X.toList = p := by rw [hX, str_list, bs_list]
        have HX := Lib.hid hX
        clear hp hdr hX HR
        by_cases hdd : p = Pth.dd
        · have k1 : (X.toList == [46, 46]) = true := by rw [hXp, hdd]; rfl
          have k2 : (X.toList != [46, 46]) = false := by rw [hXp, hdd]; rfl
          have hst : Pth.step (L, o) p = if L = [] then (L, false) else (L.dropLast, o) := by unfold Pth.step; rw [if_neg (by simp [hdd])]
          rw [hst] at hR2
          have HR2 := Lib.hid hR2
          clear hst hR2 hXp hdd
          by_cases hL0 : L = []
          · have hR3 : Pth.run (L, false) (ps.drop (i + 1)) = Pth.run ([], true) ps := by have := HR2.out; rwa [if_pos hL0] at this
            have HR3 := Lib.hid hR3
            obtain ⟨A, cap2, hv⟩ : ∃ A cap2, u4 = .slice A 0 cap2 := by
              rcases owns_shape HO.out with ⟨e, _⟩ | ⟨g, cap2, e, _⟩
              · exact ⟨_, _, e⟩
              · rw [hL0] at e; exact ⟨_, _, e⟩
            have HO2 := HO
            rw [hv] at HO2 ⊢
            clear HO hv hL0 hR3
            go_wp2_with fail
            go_roundg (ps.length - (i + 1))
            case measure => have := Hg.out; omega
            case rel => exact ⟨i + 1, L, false, by go_num, by omega, by omega, HW.out, HO2.out, rfl, by omega, HR3.out⟩
          · have hR3 : Pth.run (L.dropLast, o) (ps.drop (i + 1)) = Pth.run ([], true) ps := by have := HR2.out; rwa [if_neg hL0] at this
            have HR3 := Lib.hid hR3
            obtain ⟨k, hk⟩ : ∃ k, L.length = k + 1 := ⟨L.length - 1, by have := List.length_pos_iff.2 hL0; omega⟩
            obtain ⟨g, cap2, hv, hcap2⟩ : ∃ g cap2, u4 = .slice (some ⟨g, 0, none⟩) (k + 1) cap2 ∧ k + 1 ≤ cap2 := by
              rcases owns_shape HO.out with ⟨_, e⟩ | ⟨g, cap2, e, hc⟩
              · exact absurd e hL0
              · rw [hk] at e hc; exact ⟨g, cap2, e, hc⟩
            have HO2 := HO
            rw [hv] at HO2 ⊢
            have ho3 := owns_cut HO2.out hk
            have HO3 := Lib.hid ho3
            have hk0 : ((k : Int) + 1 == 0) = false := by simp; omega
            have hk9 : k ≤ 4000000 := by omega
            have hkc : (k : Int) ≤ cap2 := by omega
            have hdl : L.dropLast.length ≤ i + 1 := by rw [List.length_dropLast]; omega
            clear HO HO2 hv hL0 hR3 ho3 hk
            go_wp2_with fail
            go_roundg (ps.length - (i + 1))
            case measure => have := Hg.out; omega
            case rel => exact ⟨i + 1, L.dropLast, o, by go_num, by omega, by omega, HW.out, HO3.out, rfl, hdl, HR3.out⟩
        · have k1 : (X.toList == [46, 46]) = false := by rw [hXp]; simpa using hdd
          have k2 : (X.toList != [46, 46]) = true := by rw [hXp]; simpa using hdd
          have hst : Pth.step (L, o) p = (L ++ [p], o) := by unfold Pth.step; rw [if_pos hdd]
          rw [hst] at hR2
          have HR2 := Lib.hid hR2
          have HB2 := Lib.hid (HW.out.alloc HW.out.size (.cells #[.string X] 9))
          clear hst hR2 hXp hdd
          go_wp2_with (first
            | (at_builtin; refine wpList_append_own _ rfl (.tmp 23) (.tmp 25) 28 rfl w1.heap.size 9 i0 _ 1 16 Tryz.underlying28 i1 i2 i3 i4 rfl (by decide) u4 L.length (cellsS L) rfl (HO.out.alloc _) ⟨wr.heap.size, 0, none⟩ 1 1 [.string X] rfl rfl (cell_one_new _ _ _) (by intro u hu; simp at hu; rcases hu with rfl; rfl) (by unfold maxLen; omega) (by omega) (by have := HW.out.size; simp; omega) ?_; intro v' w7 hown' hgrow _))
          have HB7 := Lib.hid (HB2.out.grown hgrow (by have := HW.out.size; simp; omega) (fun q hq => (World.ownsRow.lt (HO.out.alloc (.cells #[.string X] 9)) q hq).1))
          rw [HX.out, cellsS_snoc] at hown'
          have hown2 : w7.ownsRow w1.heap.size 9 1 v' (L ++ [p]).length (cellsS (L ++ [p])) := by rw [List.length_append]; exact hown'
          have HO7 := Lib.hid hown2
          clear hown' hown2 hgrow
          go_wp2_with fail
          go_roundg (ps.length - (i + 1))
          case measure => have := Hg.out; omega
          case rel => exact ⟨i + 1, L ++ [p], o, by go_num, by omega, by omega, HB7.out, HO7.out, rfl, by simp; omega, HR2.out⟩
      · have hi3 : (ps.length : Int) ≤ i := by omega
        have hfin : (L, o) = Pth.run ([], true) ps := by rw [← HR.out, List.drop_of_length_le (by omega)]; rfl
        have e1 : C = Pth.join L := by rw [HRUN.out.1, ← hfin]
        have e2 : ok = o := by rw [HRUN.out.2, ← hfin]
        subst e2
        have hj := join_any (owns_has HO.out) (by omega) (by rw [← e1]; omega)
        rw [← e1] at hj
        have HJ := Lib.hid hj
        clear hfin hj e1 HR
        go_wp2_with fail
        refine HJ.out.mono ?_
        rintro e w2 ⟨rfl, hb2⟩
        have B2 := Lib.hid (thenB (thenB B1.out HW.out) hb2)
        clear hb2
        go_wp2_with fail
        go_ret2
        exact ⟨rfl, B2.out⟩

end Go.Proofs.YtipajekehbpghaaGreatDoor

namespace Go.Proofs.YtipajekehbpghaaGreatDoor
open Go.RowKit

theorem nil_list {x : ByteArray} (h : x.data.toList = []) : x = ⟨#[]⟩ := ba_ext h

theorem in_any (a d : ByteArray) (w : World) (ha : a.size ≤ 1000000) (hd : d.size ≤ 1000000) :
    Calls Tryz.prog 22 #[.string a, .string d] w fun e w' => e = .returned (.bool (Pth.inn a.data.toList d.data.toList)) ∧ Below w.heap.size w w' := by
  have e0 : Pth.inn a.data.toList d.data.toList = (d.data.toList == [] || a.data.toList == d.data.toList || (d.data.toList ++ [47]).isPrefixOf a.data.toList) := rfl
  by_cases h0 : d.data.toList = []
  · have hr : Pth.inn a.data.toList d.data.toList = true := by rw [e0, h0]; rfl
    have HR := Lib.hid hr
    have k1 : d.toList = [] := by rw [str_list]; exact h0
    clear hr e0 h0
    go_enter Tryz.func22, Tryz.ntmps22
    go_wp2_with fail
    go_ret
    rw [HR.out]
    exact ⟨rfl, Below.refl _ _⟩
  · by_cases h1 : a.data.toList = d.data.toList
    · have hr : Pth.inn a.data.toList d.data.toList = true := by rw [e0, h1]; simp
      have HR := Lib.hid hr
      have had : a = d := ba_ext h1
      have k1 : ¬ d.toList = [] := by rw [str_list]; exact h0
      have k2 : d.toList.isEmpty = false := by rw [str_list]; simpa using h0
      clear hr e0 h0 h1
      subst had
      go_enter Tryz.func22, Tryz.ntmps22
      go_wp2_with fail
      go_ret
      rw [HR.out]
      exact ⟨by simp, Below.refl _ _⟩
    · have hr : Pth.inn a.data.toList d.data.toList = (d.data.toList ++ [47]).isPrefixOf a.data.toList := by rw [e0, beq_eq_false_iff_ne.2 h0, beq_eq_false_iff_ne.2 h1]; rfl
      have hp := fun w => Tryz.strings_HasPrefix a (d ++ ⟨#[47]⟩) w
      have ep : Lib.hasPrefix a.data.toList (d ++ (⟨#[47]⟩ : ByteArray)).data.toList = Pth.inn a.data.toList d.data.toList := by
        rw [hr, cat_list]; rfl
      rw [ep] at hp
      obtain ⟨bb, hbb⟩ : ∃ bb, bb = Pth.inn a.data.toList d.data.toList := ⟨_, rfl⟩
      rw [← hbb] at hp ⊢
      have HP := Lib.hid hp
      have k1 : ¬ d.toList = [] := by rw [str_list]; exact h0
      have k2 : d.toList.isEmpty = false := by rw [str_list]; simpa using h0
      have k3 : (a.toList == d.toList) = false := by rw [str_list, str_list]; simpa using h1
      clear hr hp ep hbb e0 h0 h1
      go_enter Tryz.func22, Tryz.ntmps22
      go_wp2_with fail
      refine (HP.out _).mono ?_
      rintro e w1 ⟨rfl, rfl⟩
      go_wp2_with fail
      go_ret
      exact ⟨rfl, Below.refl _ _⟩

theorem last_none (s : ByteArray) (h : (47 : UInt8) ∉ s.data.toList) : Lib.lastIndexByte s 47 = -1 := by
  rcases Lib.lastIdx_spec s 47 s.size with ⟨h1, _⟩ | ⟨i, hi, _, h2, _⟩
  · exact h1
  · exfalso
    have hi' : i < s.data.size := hi
    rw [getElem!_pos s.data i hi'] at h2
    have e : s.data[i] = 47 := UInt8.toNat_inj.1 (by have : ((47 : UInt8).toNat : Int) = 47 := rfl; omega)
    exact h (by rw [← e]; exact List.getElem_mem (l := s.data.toList) (n := i) (by simpa using hi'))
theorem last_some (a b : List UInt8) (h : (47 : UInt8) ∉ b) : Lib.lastIndexByte (bs (a ++ 47 :: b)) 47 = a.length := by
  have hsz : (bs (a ++ 47 :: b)).size = a.length + 1 + b.length := by rw [bs_size]; simp; omega
  have get : ∀ j (hj : j < (a ++ 47 :: b).length), (bs (a ++ 47 :: b)).data[j]! = (a ++ 47 :: b)[j] := fun j hj => by
    rw [getElem!_pos _ j (by simpa [bs] using hj)]; simp [bs]
  rcases Lib.lastIdx_spec (bs (a ++ 47 :: b)) 47 (bs (a ++ 47 :: b)).size with ⟨_, h2⟩ | ⟨i, hi, h1, h2, h3⟩
  · exfalso
    refine h2 a.length (by omega) ?_
    rw [get _ (by simp)]; simp
  · have e : i = a.length := by
      rcases Nat.lt_trichotomy i a.length with hlt | rfl | hgt
      · exfalso
        refine h3 a.length hlt (by omega) ?_
        rw [get _ (by simp)]; simp
      · rfl
      · exfalso
        obtain ⟨m, rfl⟩ : ∃ m, i = a.length + (m + 1) := ⟨i - a.length - 1, by omega⟩
        have hmb : m < b.length := by omega
        rw [get _ (by simp; omega)] at h2
        have eb : (a ++ 47 :: b)[a.length + (m + 1)]'(by simp; omega) = b[m] := by
          rw [List.getElem_append_right (by omega)]; simp
        rw [eb] at h2
        have e : b[m] = 47 := UInt8.toNat_inj.1 (by have : ((47 : UInt8).toNat : Int) = 47 := rfl; omega)
        exact h (by rw [← e]; exact List.getElem_mem _)
    rw [← e]; exact h1

theorem up_none (s : ByteArray) (w : World) (hs : s.size ≤ 1000000) (h : (47 : UInt8) ∉ s.data.toList) :
    Calls Tryz.prog 95 #[.string s] w fun e w' => e = .returned (.tuple #[.string ⟨#[]⟩, .string s]) ∧ Below w.heap.size w w' := by
  have hl := fun w => Tryz.strings_LastIndexByte s 47 (by omega) w
  rw [last_none s h] at hl
  have HL := Lib.hid hl
  clear hl h
  go_enter Tryz.func95, Tryz.ntmps95
  go_wp2_with fail
  refine (HL.out _).mono ?_
  rintro e w1 ⟨rfl, rfl⟩
  go_wp2_with fail
  go_region
  all_goals go_wp2_with fail
  all_goals go_ret2
  all_goals exact ⟨by rw [show (max (-1 : Int) 0).toNat = 0 from rfl, show s.extract 0 0 = ⟨#[]⟩ from ba_ext (by rw [ext_list]; rfl)]; rfl, (Below.refl _ _).drew⟩

theorem up_some (a b : List UInt8) (w : World) (hs : a.length + b.length ≤ 100000) (h : (47 : UInt8) ∉ b) :
    Calls Tryz.prog 95 #[.string (bs (a ++ 47 :: b))] w fun e w' => e = .returned (.tuple #[.string (bs a), .string (bs b)]) ∧ Below w.heap.size w w' := by
  have hsz : (bs (a ++ 47 :: b)).size = a.length + 1 + b.length := by rw [bs_size]; simp; omega
  have hl := fun w => Tryz.strings_LastIndexByte (bs (a ++ 47 :: b)) 47 (by omega) w
  rw [last_some a b h] at hl
  obtain ⟨s, hS⟩ : ∃ s, s = bs (a ++ 47 :: b) := ⟨_, rfl⟩
  rw [← hS] at hl hsz ⊢
  have e1 : s.extract 0 a.length = bs a := ba_ext (by rw [ext_to, hS, bs_list, bs_list]; simp)
  have e2 : s.extract (a.length + 1) s.size = bs b := ba_ext (by rw [ext_end, hS, bs_list, bs_list]; simp)
  obtain ⟨n, hn⟩ : ∃ n, n = a.length := ⟨_, rfl⟩
  rw [← hn] at hl e1 e2 hsz
  have hn1 : n + 1 ≤ s.size := by omega
  have hn2 : n ≤ 100000 := by omega
  have hn3 : (n : Int) + 1 ≤ s.size := by omega
  have hn4 : (n : Int) ≤ s.size := by omega
  have HL := Lib.hid hl
  have E1 := Lib.hid e1
  have E2 := Lib.hid e2
  clear hl h hS e1 e2 hn hsz
  have hmx : max (n : Int) 0 = n := by omega
  have hw1 : IntKind.i64.wrap ((n : Int) + 1) = (n : Int) + 1 := IntWalk.i64_in _ (by omega)
  have hw2 : ((n : Int) + 1).toNat = n + 1 := by omega
  have hn0 : (0 : Int) ≤ (n : Int) + 1 := by omega
  go_enter Tryz.func95, Tryz.ntmps95
  go_wp2_with fail
  refine (HL.out _).mono ?_
  rintro e w1 ⟨rfl, rfl⟩
  go_wp2_with fail
  go_region
  all_goals go_wp2_with fail
  all_goals go_ret2
  all_goals exact ⟨by rw [E1.out, E2.out]; rfl, (Below.refl _ _).drew⟩

end Go.Proofs.YtipajekehbpghaaGreatDoor

namespace Go.Proofs.YtipajekehbpghaaGreatDoor
open Go.RowKit

theorem nan_any (x : ByteArray) (w : World) : Calls Tryz.prog 148 #[.string x] w fun e w' => e = .returned (.bool false) ∧ w' = w := by
  go_enter Tryz.func148, Tryz.ntmps148
  go_wp2_with fail
  go_ret
  exact ⟨by simp, rfl⟩

theorem less_eq : ∀ (x y : List UInt8), Op.bytesLess x y = decide (x < y)
  | [], [] => by simp [Op.bytesLess]
  | [], _ :: _ => by simp [Op.bytesLess]
  | _ :: _, [] => by simp [Op.bytesLess]
  | a :: x, b :: y => by
    have ih := less_eq x y
    unfold Op.bytesLess
    rw [ih, Bool.eq_iff_iff]
    simp [List.cons_lt_cons_iff]

theorem cmp_any (x y : ByteArray) (w : World) : Calls Tryz.prog 125 #[.string x, .string y] w fun e w' => e = .returned (.int .i64 (Pth.cmpB x.data.toList y.data.toList)) ∧ w' = w := by
  have hless : Op.bytesLess x.toList y.toList = decide (x.data.toList < y.data.toList) := by rw [less_eq, str_list, str_list]
  obtain ⟨r, hr⟩ : ∃ r, r = Pth.cmpB x.data.toList y.data.toList := ⟨_, rfl⟩
  rw [← hr]
  have hways : (Op.bytesLess x.toList y.toList = true ∧ r = -1) ∨ (Op.bytesLess x.toList y.toList = false ∧ (x.toList == y.toList) = false ∧ r = 1) ∨ (Op.bytesLess x.toList y.toList = false ∧ (x.toList == y.toList) = true ∧ r = 0) := by
    rw [hless]
    by_cases h : x.data.toList < y.data.toList
    · exact .inl ⟨decide_eq_true h, by rw [hr]; unfold Pth.cmpB; rw [if_pos h]⟩
    · by_cases h2 : y.data.toList < x.data.toList
      · refine .inr (.inl ⟨decide_eq_false h, ?_, by rw [hr]; unfold Pth.cmpB; rw [if_neg h, if_pos h2]⟩)
        rw [str_list, str_list, beq_eq_false_iff_ne]
        intro e; rw [e] at h2; exact List.lt_irrefl _ h2
      · refine .inr (.inr ⟨decide_eq_false h, ?_, by rw [hr]; unfold Pth.cmpB; rw [if_neg h, if_neg h2]⟩)
        rw [str_list, str_list, beq_iff_eq]
        exact Pth.lt_tri h h2
  clear hless hr
  rcases hways with ⟨k1, rfl⟩ | ⟨k1, k2, rfl⟩ | ⟨k1, k2, rfl⟩
  all_goals
    go_enter Tryz.func125, Tryz.ntmps125
    go_wp2_with fail
    refine (nan_any _ _).mono ?_
    rintro e w1 ⟨rfl, rfl⟩
    go_wp2_with fail
    refine (nan_any _ _).mono ?_
    rintro e w1 ⟨rfl, rfl⟩
    go_wp2_with fail
    go_ret
    exact ⟨rfl, rfl⟩

theorem cmp_nil_left (Q : List Pth.Bs) : Pth.cmp [] Q = if Q.length = 0 then 0 else -1 := by cases Q <;> simp [Pth.cmp]
theorem cmp_nil_right {P : List Pth.Bs} (h : 0 < P.length) : Pth.cmp P [] = 1 := by
  cases P with
  | nil => simp at h
  | cons p r => rfl

theorem compare_left (A : Option Addr) (cap : Nat) (C : Option Addr) (n cap2 : Nat) (w : World) (hn : n ≤ 1000000) :
    Calls Tryz.prog 87 #[.slice A 0 cap, .slice C n cap2] w fun e w' => e = .returned (.int .i64 (if n = 0 then 0 else -1)) ∧ w' = w := by
  by_cases h0 : n = 0
  · subst h0
    go_enter Tryz.func87, Tryz.ntmps87
    go_wp2_with fail
    refine wp_loop_rounds 1 ?_
    rw [rounds_succ]
    go_wp2_with fail
    go_ret
    exact ⟨rfl, rfl⟩
  · rw [if_neg h0]
    have h1 : (0 : Int) < n := by omega
    clear h0
    go_enter Tryz.func87, Tryz.ntmps87
    go_wp2_with fail
    refine wp_loop_rounds 1 ?_
    rw [rounds_succ]
    go_wp2_with fail
    go_ret
    exact ⟨rfl, rfl⟩

theorem compare_right (b off cap : Nat) (P : List Pth.Bs) (A : Option Addr) (cap2 : Nat) (w : World) (h0 : 0 < P.length) (hl : P.length ≤ 1000000) (hr : RowS w b off P) :
    Calls Tryz.prog 87 #[.slice (some ⟨b, off, none⟩) P.length cap, .slice A 0 cap2] w fun e w' => e = .returned (.int .i64 1) ∧ w' = w := by
  have c1 := hr 0 h0
  rw [Nat.add_zero] at c1
  obtain ⟨X, hX⟩ : ∃ X, X = bs P[0] := ⟨_, rfl⟩
  rw [← hX] at c1
  have h1 : (0 : Int) < P.length := by omega
  clear hr hX
  go_enter Tryz.func87, Tryz.ntmps87
  go_wp2_with fail
  refine wp_loop_rounds 1 ?_
  rw [rounds_succ]
  go_wp2_with fail
  go_ret
  exact ⟨rfl, rfl⟩

set_option maxRecDepth 100000 in
theorem compare_rows (b off cap b2 off2 cap2 : Nat) (P Q : List Pth.Bs) (w : World) (hl : P.length ≤ 1000000) (hl2 : Q.length ≤ 1000000) (hr : RowS w b off P) (hr2 : RowS w b2 off2 Q) :
    Calls Tryz.prog 87 #[.slice (some ⟨b, off, none⟩) P.length cap, .slice (some ⟨b2, off2, none⟩) Q.length cap2] w fun e w' => e = .returned (.int .i64 (Pth.cmp P Q)) ∧ w' = w := by
  obtain ⟨R, hR⟩ : ∃ R, R = Pth.cmp P Q := ⟨_, rfl⟩
  rw [← hR]
  have HR := Lib.hid hR
  have H1 := Lib.hid hr
  have H2 := Lib.hid hr2
  clear hR hr hr2
  go_enter Tryz.func87, Tryz.ntmps87
  go_wp2_with fail
  go_loop [11] (fun iv => ∃ i : Nat, iv = .int .i64 i ∧ i ≤ P.length ∧ i ≤ Q.length ∧ R = Pth.cmp (P.drop i) (Q.drop i)) (fun iv => P.length - (intOf iv).toNat)
  case atStart => exact ⟨0, rfl, by omega, by omega, by rw [List.drop_zero, List.drop_zero]; exact HR.out⟩
  case round =>
    obtain ⟨i, rfl, hi1, hi2, hR⟩ := hrel
    have HR2 := Lib.hid hR
    clear hR
    by_cases hi : i < P.length
    · have hi3 : (i : Int) < P.length := by omega
      have c1 := H1.out i hi
      obtain ⟨p, hp⟩ : ∃ p, p = P[i] := ⟨_, rfl⟩
      rw [← hp] at c1
      have hdP : P.drop i = p :: P.drop (i + 1) := by rw [hp]; exact List.drop_eq_getElem_cons hi
      obtain ⟨X, hX⟩ : ∃ X, X = bs p := ⟨_, rfl⟩
      rw [← hX] at c1
      have HdP := Lib.hid hdP
      have HX := Lib.hid hX
      clear hp hdP hX
      by_cases hj : i < Q.length
      · have hj3 : (i : Int) < Q.length := by omega
        have hj4 : ¬ (Q.length : Int) ≤ i := by omega
        have c2 := H2.out i hj
        obtain ⟨q, hq⟩ : ∃ q, q = Q[i] := ⟨_, rfl⟩
        rw [← hq] at c2
        have hdQ : Q.drop i = q :: Q.drop (i + 1) := by rw [hq]; exact List.drop_eq_getElem_cons hj
        obtain ⟨Y, hY⟩ : ∃ Y, Y = bs q := ⟨_, rfl⟩
        rw [← hY] at c2
        have hc := fun w => cmp_any X Y w
        have hR3 : R = if Pth.cmpB p q = 0 then Pth.cmp (P.drop (i + 1)) (Q.drop (i + 1)) else Pth.cmpB p q := by rw [HR2.out, HdP.out, hdQ]; rfl
        rw [HX.out, hY, bs_list, bs_list, ← HX.out, ← hY] at hc
        obtain ⟨t, ht⟩ : ∃ t, t = Pth.cmpB p q := ⟨_, rfl⟩
        rw [← ht] at hc hR3
        have HC := Lib.hid hc
        have HR3 := Lib.hid hR3
        clear hq hdQ hY hc ht hR3
        by_cases h0 : t = 0
        · subst h0
          go_wp2_with fail
          refine (HC.out _).mono ?_
          rintro e w1 ⟨rfl, rfl⟩
          go_wp2_with fail
          go_round
          case rel => exact ⟨i + 1, by go_num, by omega, by omega, HR3.out⟩
          case measure => simp [intOf]; omega
        · have h1 : (t == 0) = false := by simpa using h0
          have h2 : (t != 0) = true := by simpa using h0
          have hRt : R = t := by rw [HR3.out, if_neg h0]
          have HRt := Lib.hid hRt
          clear h0 hRt
          go_wp2_with fail
          refine (HC.out _).mono ?_
          rintro e w1 ⟨rfl, rfl⟩
          go_wp2_with fail
          go_ret
          rw [HRt.out]
          exact ⟨rfl, rfl⟩
      · have hj4 : (Q.length : Int) ≤ i := by omega
        have hRt : R = 1 := by rw [HR2.out, HdP.out, List.drop_of_length_le (by omega : Q.length ≤ i)]; rfl
        have HRt := Lib.hid hRt
        clear hRt
        go_wp2_with fail
        go_ret
        rw [HRt.out]
        exact ⟨rfl, rfl⟩
    · have hi3 : (P.length : Int) ≤ i := by omega
      have hRt : R = if P.length < Q.length then -1 else 0 := by
        rw [HR2.out, List.drop_of_length_le (by omega : P.length ≤ i), cmp_nil_left, List.length_drop]
        by_cases h : P.length < Q.length
        · rw [if_pos h, if_neg (by omega)]
        · rw [if_neg h, if_pos (by omega)]
      by_cases h : P.length < Q.length
      · rw [if_pos h] at hRt
        have HRt := Lib.hid hRt
        have h3 : (P.length : Int) < Q.length := by omega
        clear hRt
        go_wp2_with fail
        go_ret
        rw [HRt.out]
        exact ⟨rfl, rfl⟩
      · rw [if_neg h] at hRt
        have HRt := Lib.hid hRt
        have h3 : ¬ (P.length : Int) < Q.length := by omega
        clear hRt
        go_wp2_with fail
        go_ret
        rw [HRt.out]
        exact ⟨rfl, rfl⟩

theorem compare_any {W : World} {B B2 : Nat} {v u : Value} {P Q : List Pth.Bs} (h1 : HasS W B v P) (h2 : HasS W B2 u Q) (hl : P.length ≤ 1000000) (hl2 : Q.length ≤ 1000000) :
    Calls Tryz.prog 87 #[v, u] W fun e w' => e = .returned (.int .i64 (Pth.cmp P Q)) ∧ w' = W := by
  rcases h1.ways with ⟨A, cap, rfl, rfl⟩ | ⟨b, off, cap, rfl, _, _, hb, h0, hr⟩
  · rw [cmp_nil_left]
    obtain ⟨C, cap2, rfl, _⟩ := h2
    exact compare_left A cap C Q.length cap2 W hl2
  · rcases h2.ways with ⟨A, cap2, rfl, rfl⟩ | ⟨b2, off2, cap2, rfl, _, _, hb2, h02, hr2⟩
    · rw [cmp_nil_right h0]
      exact compare_right b off cap P A cap2 W h0 hl hr
    · exact compare_rows b off cap b2 off2 cap2 P Q W hl hl2 hr hr2

/-- path.Compare. -/
theorem order_any (a b : ByteArray) (w : World) (ha : a.size ≤ 100000) (hb : b.size ≤ 100000) (hm : ML w) :
    Calls Tryz.prog 39 #[.string a, .string b] w fun e w' => e = .returned (.int .i64 (Pth.cmp (Pth.parts a.data.toList) (Pth.parts b.data.toList))) ∧ Below w.heap.size w w' := by
  have l1 := Pth.parts_len a.data.toList
  have l2 := Pth.parts_len b.data.toList
  rw [list_size] at l1 l2
  obtain ⟨P, hP⟩ : ∃ P, P = Pth.parts a.data.toList := ⟨_, rfl⟩
  obtain ⟨Q, hQ⟩ : ∃ Q, Q = Pth.parts b.data.toList := ⟨_, rfl⟩
  have p1 := parts_any a w (by omega) hm
  have p2 := fun w hm => parts_any b w (by omega) hm
  rw [← hP] at l1 p1 ⊢
  rw [← hQ] at l2 ⊢
  have p2' : ∀ w, ML w → Calls Tryz.prog 62 #[.string b] w fun e w' => ∃ v, e = .returned v ∧ HasS w' w.heap.size v Q ∧ Below w.heap.size w w' := by rw [hQ]; exact p2
  have P1 := Lib.hid p1
  have P2 := Lib.hid p2'
  have HM := Lib.hid hm
  clear hP hQ p1 p2 p2' hm
  go_enter Tryz.func39, Tryz.ntmps39
  go_wp2_with fail
  refine P1.out.mono ?_
  rintro e w1 ⟨v, rfl, h1, hb1⟩
  have H1 := Lib.hid h1
  have B1 := Lib.hid hb1
  clear h1 hb1
  go_wp2_with fail
  refine (P2.out _ (HM.out.below B1.out)).mono ?_
  rintro e w2 ⟨u, rfl, h2, hb2⟩
  have H2 := Lib.hid h2
  have B2 := Lib.hid hb2
  clear h2 hb2
  go_wp2_with fail
  refine (compare_any (H1.out.below B2.out) H2.out (by omega) (by omega)).mono ?_
  rintro e w3 ⟨rfl, rfl⟩
  go_wp2_with fail
  go_ret
  exact ⟨rfl, thenB B1.out B2.out⟩

end Go.Proofs.YtipajekehbpghaaGreatDoor

namespace Go.Proofs.YtipajekehbpghaaGreatDoor
open Go.RowKit

theorem has_zero (l : List UInt8) : (Lib.indexByte l 0 < 0) ↔ l.contains 0 = false := by
  have hge := Lib.indexByte_ge l 0
  constructor
  · intro h
    have h1 := Lib.indexByte_none (l := l) (c := 0) (by omega)
    rw [Bool.eq_false_iff]
    intro hc
    obtain ⟨k, hk⟩ := List.getElem?_of_mem (List.contains_iff_mem.1 hc)
    exact h1 k hk
  · intro h
    rcases Int.lt_or_le (Lib.indexByte l 0) 0 with h1 | h1
    · exact h1
    · exfalso
      obtain ⟨i, hi⟩ := Int.eq_ofNat_of_zero_le h1
      have h2 := (Lib.indexByte_some hi).1
      have : l.contains 0 = true := List.contains_iff_mem.2 (List.mem_of_getElem? h2)
      rw [this] at h; cases h

set_option maxRecDepth 100000 in
set_option maxHeartbeats 1000000 in
theorem right_any (s : ByteArray) (w : World) (hs : s.size ≤ 2000000) (hm : ML w) :
    Calls Tryz.prog 93 #[.string s] w fun e w' => e = .returned (.bool (Pth.right s.data.toList)) ∧ Below w.heap.size w w' := by
  have hc := clean_any s w hs hm
  have hp := fun w hm => parts_any s w (by omega) hm
  have hi := fun w => Tryz.strings_IndexByte s 0 w
  have hz := has_zero s.data.toList
  have hpl := Pth.parts_len s.data.toList
  rw [list_size] at hpl
  have e0 : Pth.right s.data.toList = (Pth.cleanOk s.data.toList && Pth.clean s.data.toList == s.data.toList && !(s.data.toList == []) && decide (s.data.toList.length ≤ 120) && decide ((Pth.parts s.data.toList).length ≤ 12) && !(s.data.toList.contains 0)) := rfl
  obtain ⟨C, hC⟩ : ∃ C, C = bs (Pth.clean s.data.toList) := ⟨_, rfl⟩
  have hCs : (Pth.clean s.data.toList == s.data.toList) = (C.toList == s.toList) := by rw [hC, str_list, str_list, bs_list]
  have hnil : (s.data.toList == []) = s.toList.isEmpty := by rw [str_list]; cases s.data.toList <;> rfl
  rw [hCs, hnil, list_size] at e0
  rw [← hC] at hc
  obtain ⟨ok, hok⟩ : ∃ ok, ok = Pth.cleanOk s.data.toList := ⟨_, rfl⟩
  rw [← hok] at hc e0
  have hpf : ∀ w, ML w → Calls Tryz.prog 62 #[.string s] w fun e w' => ∃ A cap, e = .returned (.slice A (Pth.parts s.data.toList).length cap) ∧ Below w.heap.size w w' := fun w hm => (hp w hm).mono fun e w' ⟨v, he, ⟨A, cap, hv, _⟩, hb⟩ => ⟨A, cap, hv ▸ he, hb⟩
  obtain ⟨n, hn⟩ : ∃ n, n = (Pth.parts s.data.toList).length := ⟨_, rfl⟩
  rw [← hn] at hpf e0 hpl
  have hix : (0 : Int).toNat.toUInt8 = 0 := rfl
  rw [hix] at hi
  obtain ⟨x, hx⟩ : ∃ x, x = Lib.indexByte s.data.toList 0 := ⟨_, rfl⟩
  rw [← hx] at hi hz
  obtain ⟨z, hzz⟩ : ∃ z, z = s.data.toList.contains 0 := ⟨_, rfl⟩
  rw [← hzz] at hz e0
  obtain ⟨R, hR⟩ : ∃ R, R = Pth.right s.data.toList := ⟨_, rfl⟩
  rw [← hR] at e0 ⊢
  have H1 := Lib.hid hc
  have H2 := Lib.hid hpf
  have H3 := Lib.hid hi
  have HM := Lib.hid hm
  clear hc hp hpf hi hm hC hok hn hx hzz hR hCs hnil hix
  have hways : (ok = false ∧ R = false) ∨ (ok = true ∧ (C.toList == s.toList) = false ∧ R = false) ∨ (ok = true ∧ (C.toList == s.toList) = true ∧ s.toList = [] ∧ R = false)
      ∨ (ok = true ∧ (C.toList == s.toList) = true ∧ s.toList.isEmpty = false ∧ ¬ (s.size : Int) ≤ 120 ∧ R = false)
      ∨ (ok = true ∧ (C.toList == s.toList) = true ∧ s.toList.isEmpty = false ∧ (s.size : Int) ≤ 120 ∧ ¬ (n : Int) ≤ 12 ∧ R = false)
      ∨ (ok = true ∧ (C.toList == s.toList) = true ∧ s.toList.isEmpty = false ∧ (s.size : Int) ≤ 120 ∧ (n : Int) ≤ 12 ∧ ¬ x < 0 ∧ R = false)
      ∨ (ok = true ∧ (C.toList == s.toList) = true ∧ s.toList.isEmpty = false ∧ (s.size : Int) ≤ 120 ∧ (n : Int) ≤ 12 ∧ x < 0 ∧ R = true) := by
    rw [e0]
    cases ok
    · exact .inl ⟨rfl, rfl⟩
    right
    cases h2 : (C.toList == s.toList)
    · exact .inl ⟨rfl, rfl, rfl⟩
    right
    by_cases h3 : s.toList = []
    · exact .inl ⟨rfl, rfl, h3, by rw [h3]; rfl⟩
    right
    have h3' : s.toList.isEmpty = false := by simpa using h3
    rw [h3']
    by_cases h4 : s.size ≤ 120
    · right
      have h4' : (s.size : Int) ≤ 120 := by omega
      by_cases h5 : n ≤ 12
      · right
        have h5' : (n : Int) ≤ 12 := by omega
        by_cases h6 : x < 0
        · refine .inr ⟨rfl, rfl, rfl, h4', h5', h6, ?_⟩
          rw [hz.1 h6, decide_eq_true h4, decide_eq_true h5]; rfl
        · have hz' : z = true := by
            cases z
            · exact absurd (hz.2 rfl) h6
            · rfl
          refine .inl ⟨rfl, rfl, rfl, h4', h5', h6, ?_⟩
          rw [hz']; simp
      · refine .inl ⟨rfl, rfl, rfl, h4', by omega, ?_⟩
        rw [decide_eq_false h5]; simp
    · refine .inl ⟨rfl, rfl, rfl, by omega, ?_⟩
      rw [decide_eq_false h4]; simp
  clear e0 hz hpl
  rcases hways with ⟨rfl, rfl⟩ | ⟨rfl, k1, rfl⟩ | ⟨rfl, k1, k2, rfl⟩ | ⟨rfl, k1, k2, k3, rfl⟩ | ⟨rfl, k1, k2, k3, k4, rfl⟩ | ⟨rfl, k1, k2, k3, k4, k5, rfl⟩ | ⟨rfl, k1, k2, k3, k4, k5, rfl⟩
  · go_enter Tryz.func93, Tryz.ntmps93
    go_wp2_with fail
    refine H1.out.mono ?_
    rintro e w1 ⟨rfl, h1⟩
    have B1 := Lib.hid h1
    clear h1
    go_wp2_with fail
    go_ret
    exact ⟨rfl, B1.out⟩
  · go_enter Tryz.func93, Tryz.ntmps93
    go_wp2_with fail
    refine H1.out.mono ?_
    rintro e w1 ⟨rfl, h1⟩
    have B1 := Lib.hid h1
    clear h1
    go_wp2_with fail
    go_ret
    exact ⟨rfl, B1.out⟩
  · have k6 : s.toList.isEmpty = true := by rw [k2]; rfl
    have k7 : C.toList = [] := by rw [← k2]; exact eq_of_beq k1
    have k8 : C.toList.isEmpty = true := by rw [k7]; rfl
    clear k1
    go_enter Tryz.func93, Tryz.ntmps93
    go_wp2_with fail
    refine H1.out.mono ?_
    rintro e w1 ⟨rfl, h1⟩
    have B1 := Lib.hid h1
    clear h1
    go_wp2_with fail
    go_ret
    exact ⟨rfl, B1.out⟩
  · have k6 : ¬ s.toList = [] := by intro e; rw [e] at k2; cases k2
    go_enter Tryz.func93, Tryz.ntmps93
    go_wp2_with fail
    refine H1.out.mono ?_
    rintro e w1 ⟨rfl, h1⟩
    have B1 := Lib.hid h1
    clear h1
    go_wp2_with fail
    go_ret
    exact ⟨rfl, B1.out⟩
  all_goals
    have k6 : ¬ s.toList = [] := by intro e; rw [e] at k2; cases k2
    go_enter Tryz.func93, Tryz.ntmps93
    go_wp2_with fail
    refine H1.out.mono ?_
    rintro e w1 ⟨rfl, h1⟩
    have B1 := Lib.hid h1
    clear h1
    go_wp2_with fail
    refine (H2.out _ (HM.out.below B1.out)).mono ?_
    rintro e w2 ⟨A, cap, rfl, h2⟩
    have B2 := Lib.hid (thenB B1.out h2)
    clear h2
    go_wp2_with fail
  · go_ret
    exact ⟨rfl, B2.out⟩
  all_goals
    refine (H3.out _).mono ?_
    rintro e w3 ⟨rfl, rfl⟩
    go_wp2_with fail
    go_ret
    exact ⟨by simp [k5], B2.out⟩

end Go.Proofs.YtipajekehbpghaaGreatDoor

namespace Go.Proofs.YtipajekehbpghaaGreatDoor
open Go.RowKit Go.Shelf Go.Lib Go.Sort

theorem delete_drawn (xs : List ByteArray) (w : World) (hl : xs.length ≤ 9223372036854775807) :
    Calls Tryz.prog 82 #[.slice (some ⟨w.heap.size, 0, none⟩) xs.length xs.length, .func (.func 108) #[] #[]] (w.alloc (.cells (xs.map Value.string).toArray 9))
      fun e w' => ∃ cap, e = .returned (.slice (some ⟨w.heap.size, 0, none⟩) ((xs.map (·.data.toList)).filter Pth.keep).length cap) ∧ ((xs.map (·.data.toList)).filter Pth.keep).length ≤ cap ∧ w.heap.size < w'.heap.size ∧ RowS w' w.heap.size 0 ((xs.map (·.data.toList)).filter Pth.keep) ∧ Below w.heap.size w w' ∧ w.drawn ≤ w'.drawn := by
  obtain ⟨W, hW⟩ : ∃ W, W = w.alloc (.cells (xs.map Value.string).toArray 9) := ⟨_, rfl⟩
  have hH : Holds Value.string W w.heap.size 0 xs.toArray := fun j hj => by
    have hj' : j < xs.length := by simpa using hj
    rw [hW]
    constructor
    · rw [(Blk.new w _ _).cell]; simp [hj']
    · exact (Blk.new w _ _).frozen _
  have hsz : W.heap.size = w.heap.size + 1 := by rw [hW]; simp
  have hBw : Below w.heap.size w W := by rw [hW]; exact (Below.refl _ _).alloc (Nat.le_refl _) _
  have h := Tryz.slices_DeleteFunc Value.string (fun _ => rfl) (fun x => !Pth.keep x.data.toList) 108 #[] (enters_of Tryz.func108 (by kernel_rfl) rfl) ByteArray.empty Tryz.zeroValue9
    w.heap.size 0 xs.length xs.toArray W (fun W' x _ => drop_any x W') (fun n os dk x _ => drop_any x _) hH (by simpa using hl) (by simp)
  rw [← hW]
  have hsx : xs.toArray.size = xs.length := by simp
  rw [hsx] at h
  have hnot : (fun x : ByteArray => !!Pth.keep x.data.toList) = fun x => Pth.keep x.data.toList := by funext x; simp
  rw [hnot] at h
  obtain ⟨ys, hys⟩ : ∃ ys, ys = xs.filter (fun x => Pth.keep x.data.toList) := ⟨_, rfl⟩
  have hyl : ys.length ≤ xs.length := by rw [hys]; exact List.length_filter_le _ _
  have hym : ys.map (·.data.toList) = (xs.map (·.data.toList)).filter Pth.keep := by rw [hys, List.filter_map]; rfl
  rw [← hym]
  refine h.mono fun e w' ⟨he, q, hw⟩ => ?_
  subst he
  have hxs : xs.toArray.toList = xs := by simp
  rw [hxs, ← hys] at hw
  obtain ⟨D, hD⟩ : ∃ D, D = (ys ++ List.replicate (xs.length - ys.length) ByteArray.empty).toArray := ⟨_, rfl⟩
  rw [← hD] at hw
  have hDs : D.size = xs.toArray.size := by rw [hD]; simp; omega
  have hH2 : Holds Value.string (Sort.ahead W q) w.heap.size 0 xs.toArray := hH
  have hDk : ∀ j (hj : j < ys.length), D[j]! = ys[j] := fun j hj => by
    rw [getElem!_pos D j (by rw [hDs]; simp; omega)]
    simp only [hD, List.getElem_toArray, List.getElem_append_left hj]
  have hbelow : Below w.heap.size w w' := by
    rw [hw]
    refine ⟨hBw.os, hBw.tape, hBw.output, ?_, fun i hi => ?_⟩
    · rw [size_putRow]; exact hBw.size
    · have : (putRow Value.string (Sort.ahead W q) w.heap.size 0 D).heap[i]? = (Sort.ahead W q).heap[i]? := by
        unfold putRow mapBlock
        rw [Array.getElem?_modify, if_neg (by omega)]
      rw [this]; exact hBw.block i hi
  have hdr : w.drawn ≤ w'.drawn := by
    rw [hw]
    show w.drawn ≤ W.drawn + q
    rw [hW]
    exact Nat.le_add_right _ _
  have hlen : (xs.toArray.toList.filter (fun x => Pth.keep x.data.toList)).length = (ys.map (·.data.toList)).length := by rw [hxs, ← hys]; simp
  rw [hlen]
  refine ⟨_, rfl, by simpa using hyl, ?_, fun j hj => ?_, hbelow, hdr⟩
  · rw [hw, size_putRow]; show w.heap.size < W.heap.size; omega
  · have hj' : j < ys.length := by simpa using hj
    rw [hw, cell?_putRow Value.string (Sort.ahead W q) w.heap.size 0 xs.toArray D hH2 hDs j (by rw [hDs]; simp; omega), hDk j hj', List.getElem_map, bs_of]

theorem parts_drawn (s : ByteArray) (w : World) (hs : s.size ≤ 4000000) (hm : ML w) :
    Calls Tryz.prog 62 #[.string s] w fun e w' => ∃ b cap, e = .returned (.slice (some ⟨b, 0, none⟩) (Pth.parts s.data.toList).length cap) ∧ (Pth.parts s.data.toList).length ≤ cap ∧ w.heap.size ≤ b ∧ b < w'.heap.size ∧ RowS w' b 0 (Pth.parts s.data.toList) ∧ Below w.heap.size w w' ∧ w.drawn ≤ w'.drawn := by
  obtain ⟨xs, hxs, hc⟩ := split_named s w hs hm
  have hl : xs.length ≤ 9223372036854775807 := by
    have := Pth.split_len s.data.toList
    rw [← hxs, List.length_map, list_size] at this
    omega
  have hd := delete_drawn xs w hl
  rw [hxs] at hd
  have HD := Lib.hid hd
  have HC := Lib.hid hc
  clear hd hc hxs hl hm
  go_enter Tryz.func62, Tryz.ntmps62
  go_wp2_with fail
  refine HC.out.mono ?_
  rintro e w1 ⟨rfl, rfl⟩
  go_wp2_with fail
  refine HD.out.mono ?_
  rintro e w2 ⟨cap, rfl, h0, h1, h2, h3, h4⟩
  have H0 := Lib.hid h0
  have H1 := Lib.hid h1
  have H2 := Lib.hid h2
  have H3 := Lib.hid h3
  have H4 := Lib.hid h4
  clear h0 h1 h2 h3 h4
  go_wp2_with fail
  go_ret
  exact ⟨_, cap, rfl, H0.out, Nat.le_refl _, H1.out, H2.out, H3.out, H4.out⟩
theorem parts_dr (s : ByteArray) (w : World) (hs : s.size ≤ 4000000) (hm : ML w) :
    Calls Tryz.prog 62 #[.string s] w fun e w' => ∃ v, e = .returned v ∧ HasS w' w.heap.size v (Pth.parts s.data.toList) ∧ Below w.heap.size w w' ∧ w.drawn ≤ w'.drawn :=
  (parts_drawn s w hs hm).mono fun _ _ ⟨_, _, he, h0, h1, h2, h3, h4, h5⟩ => ⟨_, he, HasS.row h1 h2 h0 h3, h4, h5⟩
/-- path.Compare. -/
theorem order_drawn (a b : ByteArray) (w : World) (ha : a.size ≤ 100000) (hb : b.size ≤ 100000) (hm : ML w) :
    Calls Tryz.prog 39 #[.string a, .string b] w fun e w' => e = .returned (.int .i64 (Pth.cmp (Pth.parts a.data.toList) (Pth.parts b.data.toList))) ∧ Below w.heap.size w w' ∧ w.drawn ≤ w'.drawn := by
  have l1 := Pth.parts_len a.data.toList
  have l2 := Pth.parts_len b.data.toList
  rw [list_size] at l1 l2
  obtain ⟨P, hP⟩ : ∃ P, P = Pth.parts a.data.toList := ⟨_, rfl⟩
  obtain ⟨Q, hQ⟩ : ∃ Q, Q = Pth.parts b.data.toList := ⟨_, rfl⟩
  have p1 := parts_dr a w (by omega) hm
  have p2 := fun w hm => parts_dr b w (by omega) hm
  rw [← hP] at l1 p1 ⊢
  rw [← hQ] at l2 ⊢
  have p2' : ∀ w, ML w → Calls Tryz.prog 62 #[.string b] w fun e w' => ∃ v, e = .returned v ∧ HasS w' w.heap.size v Q ∧ Below w.heap.size w w' ∧ w.drawn ≤ w'.drawn := by rw [hQ]; exact p2
  have P1 := Lib.hid p1
  have P2 := Lib.hid p2'
  have HM := Lib.hid hm
  clear hP hQ p1 p2 p2' hm
  go_enter Tryz.func39, Tryz.ntmps39
  go_wp2_with fail
  refine P1.out.mono ?_
  rintro e w1 ⟨v, rfl, h1, hb1, hd1⟩
  have H1 := Lib.hid h1
  have B1 := Lib.hid hb1
  have D1 := Lib.hid hd1
  clear h1 hb1 hd1
  go_wp2_with fail
  refine (P2.out _ (HM.out.below B1.out)).mono ?_
  rintro e w2 ⟨u, rfl, h2, hb2, hd2⟩
  have H2 := Lib.hid h2
  have B2 := Lib.hid hb2
  have D2 := Lib.hid hd2
  clear h2 hb2 hd2
  go_wp2_with fail
  refine (compare_any (H1.out.below B2.out) H2.out (by omega) (by omega)).mono ?_
  rintro e w3 ⟨rfl, rfl⟩
  go_wp2_with fail
  go_ret
  exact ⟨rfl, thenB B1.out B2.out, Nat.le_trans D1.out D2.out⟩

theorem below_grow {w w' : World} (h : Below w.heap.size w w') (hd : w.drawn ≤ w'.drawn) : ∃ q os', w' = grow (w.drewN q) os' := by
  refine ⟨w'.drawn - w.drawn, w'.heap.extract w.heap.size w'.heap.size, ?_⟩
  have e1 : w.heap ++ w'.heap.extract w.heap.size w'.heap.size = w'.heap := by
    apply Array.ext_getElem?
    intro i
    by_cases hi : i < w.heap.size
    · rw [Array.getElem?_append_left hi]; exact (h.block i hi).symm
    · rw [Array.getElem?_append_right (by omega), Array.getElem?_extract]
      have hs := h.size
      by_cases hi2 : i < w'.heap.size
      · rw [if_pos (by omega)]; congr 1; omega
      · rw [if_neg (by omega), Array.getElem?_eq_none (by omega)]
  have e2 : w.drawn + (w'.drawn - w.drawn) = w'.drawn := by omega
  obtain ⟨h1, t1, d1, o1, u1⟩ := w'
  show _ = ({ heap := w.heap ++ _, tape := w.tape, drawn := w.drawn + _, os := w.os, output := w.output } : World)
  simp only at e1 e2
  have a1 := h.os; have a2 := h.tape; have a3 := h.output
  simp only at a1 a2 a3
  subst a1; subst a2; subst a3
  simp only [World.mk.injEq]
  exact ⟨e1.symm, trivial, e2.symm, trivial, trivial⟩

/-- path.In leaves the world alone. -/
theorem in_same (a d : ByteArray) (w : World) (hd : d.size ≤ 1000000) :
    Calls Tryz.prog 22 #[.string a, .string d] w fun e w' => e = .returned (.bool (Pth.inn a.data.toList d.data.toList)) ∧ w' = w := by
  have e0 : Pth.inn a.data.toList d.data.toList = (d.data.toList == [] || a.data.toList == d.data.toList || (d.data.toList ++ [47]).isPrefixOf a.data.toList) := rfl
  by_cases h0 : d.data.toList = []
  · have hr : Pth.inn a.data.toList d.data.toList = true := by rw [e0, h0]; rfl
    have HR := Lib.hid hr
    have k1 : d.toList = [] := by rw [str_list]; exact h0
    clear hr e0 h0
    go_enter Tryz.func22, Tryz.ntmps22
    go_wp2_with fail
    go_ret
    rw [HR.out]
    exact ⟨rfl, rfl⟩
  · by_cases h1 : a.data.toList = d.data.toList
    · have hr : Pth.inn a.data.toList d.data.toList = true := by rw [e0, h1]; simp
      have HR := Lib.hid hr
      have had : a = d := ba_ext h1
      have k1 : ¬ d.toList = [] := by rw [str_list]; exact h0
      have k2 : d.toList.isEmpty = false := by rw [str_list]; simpa using h0
      clear hr e0 h0 h1
      subst had
      go_enter Tryz.func22, Tryz.ntmps22
      go_wp2_with fail
      go_ret
      rw [HR.out]
      exact ⟨by simp, rfl⟩
    · have hr : Pth.inn a.data.toList d.data.toList = (d.data.toList ++ [47]).isPrefixOf a.data.toList := by rw [e0, beq_eq_false_iff_ne.2 h0, beq_eq_false_iff_ne.2 h1]; rfl
      have hp := fun w => Tryz.strings_HasPrefix a (d ++ ⟨#[47]⟩) w
      have ep : Lib.hasPrefix a.data.toList (d ++ (⟨#[47]⟩ : ByteArray)).data.toList = Pth.inn a.data.toList d.data.toList := by
        rw [hr, cat_list]; rfl
      rw [ep] at hp
      obtain ⟨bb, hbb⟩ : ∃ bb, bb = Pth.inn a.data.toList d.data.toList := ⟨_, rfl⟩
      rw [← hbb] at hp ⊢
      have HP := Lib.hid hp
      have k1 : ¬ d.toList = [] := by rw [str_list]; exact h0
      have k2 : d.toList.isEmpty = false := by rw [str_list]; simpa using h0
      have k3 : (a.toList == d.toList) = false := by rw [str_list, str_list]; simpa using h1
      clear hr hp ep hbb e0 h0 h1
      go_enter Tryz.func22, Tryz.ntmps22
      go_wp2_with fail
      refine (HP.out _).mono ?_
      rintro e w1 ⟨rfl, rfl⟩
      go_wp2_with fail
      go_ret
      exact ⟨rfl, rfl⟩

end Go.Proofs.YtipajekehbpghaaGreatDoor
