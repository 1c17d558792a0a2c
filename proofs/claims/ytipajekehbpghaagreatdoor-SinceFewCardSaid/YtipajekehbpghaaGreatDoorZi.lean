/-
  Members in memory: as a value, and as a slice that the call owns.
-/
import Derived.Test.YtipajekehbpghaaGreatDoorZg
import Derived.Test.YtipajekehbpghaaGreatDoorZe
import Derived.Test.YtipajekehbpghaaGreatDoorZa
import Derived.Laws.Rows
import Derived.BigQuiet
import Derived.Deep.RegionHeld3
import Derived.BigRegion
import Derived.Deep.QuietTactic
import Derived.Test.YtipajekehbpghaaGreatDoorZf
set_option linter.unusedVariables false
set_option linter.unusedSimpArgs false

namespace Go.Proofs.YtipajekehbpghaaGreatDoor
open Go.RowKit Tre Pk

theorem flat_get {α : Type} {f : α → List Value} {n : Nat} (hf : ∀ a, (f a).length = n) : ∀ (ps : List α) (i k : Nat) (hi : i < ps.length), k < n → (ps.flatMap f)[i * n + k]? = (f ps[i])[k]?
  | p :: ps, 0, k, _, hk => by
    rw [List.flatMap_cons, Nat.zero_mul, Nat.zero_add, List.getElem?_append_left (by rw [hf]; exact hk)]
    rfl
  | p :: ps, i + 1, k, hi, hk => by
    have := flat_get hf ps i k (by simpa using hi) hk
    rw [List.flatMap_cons, List.getElem?_append_right (by rw [hf, Nat.succ_mul]; omega), hf, show (i + 1) * n + k - n = i * n + k by rw [Nat.succ_mul]; omega, this]
    rfl
theorem flat_len {α : Type} {f : α → List Value} {n : Nat} (hf : ∀ a, (f a).length = n) (ps : List α) : (ps.flatMap f).length = ps.length * n := by
  induction ps with
  | nil => simp
  | cons p ps ih => rw [List.flatMap_cons, List.length_append, hf, ih, List.length_cons, Nat.succ_mul]; omega

def enCells (ps : List (Ent × Value)) : List Value := ps.flatMap fun p => (evc p.1 p.2).toList
theorem enCells_len (ps : List (Ent × Value)) : (enCells ps).length = ps.length * 15 := flat_len (f := fun p : Ent × Value => (evc p.1 p.2).toList) (fun _ => rfl) ps
theorem enCells_app (ps qs : List (Ent × Value)) : enCells (ps ++ qs) = enCells ps ++ enCells qs := List.flatMap_append
theorem enCells_get (ps : List (Ent × Value)) (i k : Nat) (hi : i < ps.length) (hk : k < 15) : (enCells ps)[i * 15 + k]? = (evc ps[i].1 ps[i].2)[k]? := by
  have := flat_get (f := fun p : Ent × Value => (evc p.1 p.2).toList) (fun _ => rfl) ps i k hi hk
  unfold enCells
  rw [this, Array.getElem?_toList]

/-- Rows of cells of two types lie in two blocks. -/
theorem own_apart {w : World} {B1 B2 e1 e2 s1 s2 n1 n2 : Nat} {v1 v2 : Value} {xs ys : List Value} (h1 : w.ownsRow B1 e1 s1 v1 n1 xs) (h2 : w.ownsRow B2 e2 s2 v2 n2 ys) (hne : e1 ≠ e2) : v1.ownBlock = none ∨ v1.ownBlock ≠ v2.ownBlock := by
  rcases h1.2 with ⟨rfl, _⟩ | ⟨g1, c1, cur1, rfl, _, hg1, _⟩
  · exact .inl rfl
  · rcases h2.2 with ⟨rfl, _⟩ | ⟨g2, c2, cur2, rfl, _, hg2, _⟩
    · right; intro e; cases e
    · right
      intro e
      have e2 : g1 = g2 := by simpa [Value.ownBlock] using e
      subst e2
      rw [hg1] at hg2
      have := Option.some.inj hg2
      injection this with _ e3
      exact hne e3
/-- A member's pieces, in memory of the call's own. -/
def MapIn (w : World) (e : Ent) (mv : Value) : Prop := ∃ qs : List Hol.Pc, e.map = qs.map Hol.castP ∧ HasP w 0 mv qs
theorem MapIn.pcs {w : World} {e : Ent} {mv : Value} (h : MapIn w e mv) : Pcs w mv e.map := by
  obtain ⟨qs, e1, h1⟩ := h
  rw [e1]; exact h1.pcs
theorem MapIn.below {w w' : World} {e : Ent} {mv : Value} (h : MapIn w e mv) (hb : Below w.heap.size w w') : MapIn w' e mv := by
  obtain ⟨qs, e1, h1⟩ := h
  exact ⟨qs, e1, h1.later hb⟩
theorem MapIn.nil (w : World) {e : Ent} (h : e.map = []) : MapIn w e (.slice none 0 0) := ⟨[], h, World.ownsRow_nil _ _ _ _⟩
/-- A slice of members that the call owns; each one's pieces are in memory. -/
structure EntsIn (w : World) (B : Nat) (v : Value) (ps : List (Ent × Value)) : Prop where
  row : w.ownsRow B 40 15 v ps.length (enCells ps)
  pc : ∀ p ∈ ps, MapIn w p.1 p.2
theorem EntsIn.nil (w : World) (B : Nat) : EntsIn w B (.slice none 0 0) [] := ⟨World.ownsRow_nil _ _ _ _, fun p hp => (by cases hp)⟩
theorem EntsIn.below {w w' : World} {B : Nat} {v : Value} {ps : List (Ent × Value)} (h : EntsIn w B v ps) (hb : Below w.heap.size w w') : EntsIn w' B v ps :=
  ⟨World.ownsRow.kept h.row (only_of_below hb none) (by cases v.ownBlock <;> simp), fun p hp => (h.pc p hp).below hb⟩
theorem EntsIn.mono {w : World} {B B' : Nat} {v : Value} {ps : List (Ent × Value)} (h : EntsIn w B v ps) (hB : B' ≤ B) : EntsIn w B' v ps := by
  refine ⟨⟨h.row.1, ?_⟩, h.pc⟩
  rcases h.row.2 with hn | ⟨g, cap, cur, e, hb, rest⟩
  · exact .inl hn
  · exact .inr ⟨g, cap, cur, e, by omega, rest⟩
theorem EntsIn.ways {w : World} {B : Nat} {v : Value} {ps : List (Ent × Value)} (h : EntsIn w B v ps) : (v = .slice none 0 0 ∧ ps = []) ∨
    ∃ g cap, v = .slice (some ⟨g, 0, none⟩) ps.length cap ∧ B ≤ g ∧ g < w.heap.size ∧ ps.length ≤ cap ∧ cap ≤ maxLen ∧ 0 < cap + 1 ∧ ∀ i (hi : i < ps.length) k, k < 15 → w.cell? ⟨g, i * 15 + k, none⟩ = (evc ps[i].1 ps[i].2)[k]? := by
  rcases h.row.2 with ⟨rfl, h0⟩ | ⟨g, cap, cur, rfl, hB, hg, hc, hm, hcs, ht⟩
  · exact .inl ⟨rfl, List.length_eq_zero_iff.1 h0⟩
  · right
    refine ⟨g, cap, rfl, hB, (Array.getElem?_eq_some_iff.1 hg).1, hc, hm, by omega, fun i hi k hk => ?_⟩
    have c1 := enCells_get ps i k hi hk
    rw [← ht, List.getElem?_take, if_pos (by omega), Array.getElem?_toList] at c1
    rw [Blk.cell hg, c1]
theorem EntsIn.form {w : World} {B : Nat} {v : Value} {ps : List (Ent × Value)} (h : EntsIn w B v ps) : ∃ X cap, v = .slice X ps.length cap := by
  rcases h.ways with ⟨rfl, rfl⟩ | ⟨g, cap, rfl, _⟩
  · exact ⟨none, 0, rfl⟩
  · exact ⟨_, cap, rfl⟩
/-- What append makes of it. -/
theorem EntsIn.push {w w2 : World} {B : Nat} {v v2 : Value} {ps : List (Ent × Value)} {e : Ent} {mv : Value} (h : EntsIn w B v ps) (hq : MapIn w e mv) (hown : w2.ownsRow B 40 15 v2 (ps.length + 1) (enCells ps ++ (evc e mv).toList)) (hg : w.grownBy w2 v.ownBlock) : EntsIn w2 B v2 (ps ++ [(e, mv)]) := by
  have kept : ∀ {e : Ent} {mv : Value}, MapIn w e mv → MapIn w2 e mv := by
    rintro e mv ⟨qs, e1, h1⟩
    refine ⟨qs, e1, World.ownsRow.kept h1 hg (own_apart h1 h.row (by decide))⟩
  refine ⟨?_, fun q hq' => ?_⟩
  · rw [enCells_app, List.length_append]
    have : enCells [(e, mv)] = (evc e mv).toList := by unfold enCells; simp
    rw [this]; exact hown
  · rcases List.mem_append.1 hq' with h1 | h1
    · exact kept (h.pc q h1)
    · rw [List.mem_singleton.1 h1]; exact kept hq
theorem new_cells (w : World) (t : TypeId) (cs : Array Value) : ∀ j u, cs.toList[j]? = some u → (w.alloc (.cells cs t)).cell? ((⟨w.heap.size, 0, none⟩ : Addr).add j) = some u := by
  intro j u hu
  have hplain : (⟨w.heap.size, 0, none⟩ : Addr).add j = ⟨w.heap.size, j, none⟩ := by unfold Addr.add; split <;> simp_all
  rw [hplain, (Blk.new w t cs).cell j, ← Array.getElem?_toList]
  exact hu

end Go.Proofs.YtipajekehbpghaaGreatDoor

namespace Go.Proofs.YtipajekehbpghaaGreatDoor
open Go.RowKit Go.Maps Tre Pk

theorem infoEn : (Tryz.prog.info? 40).map (·.size) = some 15 := by kernel_rfl
theorem zeroEn (w : World) : (zeroValue 40).run Tryz.prog w = .ok (.agg #[.string ⟨#[]⟩, .int .u8 0, .int .i64 0, .int .i64 0, .int .i64 0, .int .i64 0, .int .i64 0, .int .i64 0, .string ⟨#[]⟩, .string ⟨#[]⟩, .string ⟨#[]⟩, .int .i64 0, .int .i64 0, .string ⟨#[]⟩, .slice none 0 0]) w := by kernel_rfl
theorem results_en {fn : Func} {p : Tmp} (h : fn.results = #[.cell p 40]) (tmps : Array Value) (w : World) (g : Nat) (cs : Array Value) (hs : cs.size = 15)
    (hp : tmps.getD p undef = .pointer (some ⟨g, 0, none⟩)) (hb : Blk w g 40 cs) : (results fn tmps).run Tryz.prog w = .ok (.agg cs) w :=
  results_cell_row h tmps w g 40 cs (0, 0) _ hp hb Tryz.underlying40 rfl (by rw [hs]; exact infoEn)
theorem evc_all (e : Ent) (mv : Value) (hm : mv.oneCell' = true) : (evc e mv).all (·.oneCell') = true := by
  unfold evc
  simp only [List.all_toArray, List.all_cons, List.all_nil, hm, Bool.and_true]
  rfl
theorem size_al (w : World) (o : Obj) : (w.alloc o).heap.size = w.heap.size + 1 := by simp
theorem below_setRow' {B : Nat} {a w : World} {g : Nat} (h : Below B a w) (hg : B ≤ g) (cs : Array Value) : Below B a (w.setRow g cs) := by
  refine ⟨h.os, h.tape, h.output, ?_, fun i hi => ?_⟩
  · have := h.size; simpa using this
  · rw [setRow_other w g i cs (by omega)]; exact h.block i hi
theorem pcs_none (W : World) : Pcs W (.slice none 0 0) [] := ⟨none, 0, rfl, fun j hj => absurd hj (Nat.not_lt_zero j)⟩

set_option maxRecDepth 100000 in
set_option maxHeartbeats 4000000 in
theorem entry_any (s : Pth.Bs) (n : Nd) (holes : Bool) (w : World) (hk : n.kind ≤ 255) (hd : n.data.length ≤ 4000) :
    Calls Tryz.prog 52 #[.string (bs s), ndv n, .bool holes] w fun e w' => ∃ mv, e = .returned (ev (entry s n holes) mv) ∧ MapIn w' (entry s n holes) mv ∧ Below w.heap.size w w' := by
  obtain ⟨m0, m1, m2, m3, m4, m5, m6, m7, m8, m9⟩ := n
  simp only at hk hd
  have hE : entry s ⟨m0, m1, m2, m3, m4, m5, m6, m7, m8, m9⟩ holes = if holes = false then whole s ⟨m0, m1, m2, m3, m4, m5, m6, m7, m8, m9⟩ else if 20 < (Hol.find m6 512).length ∨ m6.length ≤ Hol.size (Hol.find m6 512) then whole s ⟨m0, m1, m2, m3, m4, m5, m6, m7, m8, m9⟩ else { whole s ⟨m0, m1, m2, m3, m4, m5, m6, m7, m8, m9⟩ with map := (Hol.find m6 512).map Hol.castP, data := Hol.take m6 (Hol.find m6 512) } := rfl
  obtain ⟨E, hEE⟩ : ∃ E, E = entry s ⟨m0, m1, m2, m3, m4, m5, m6, m7, m8, m9⟩ holes := ⟨_, rfl⟩
  rw [← hEE] at hE ⊢
  have HE := Lib.hid hE
  clear hE hEE
  unfold ndv ndc
  simp only
  go_enter Tryz.func52, Tryz.ntmps52
  repeat' ((fail_if_success (with_reducible refine halt_at 2 ?_)); first | go_values | go_skip | go_guarded | go_step | go_upon | go_back | (simp only [Int.not_lt, Int.not_le] at *; go_simp) | (go_values <;> (try go_simp)) | (go_ite <;> go_prune <;> (try go_simp)) | (split <;> (first | (rename_i hx; exact (hx _ rfl).elim) | go_prune)))
  cases holes with
  | false =>
    obtain rfl : E = whole s ⟨m0, m1, m2, m3, m4, m5, m6, m7, m8, m9⟩ := by rw [HE.out, if_pos rfl]
    have B := (((Below.refl w.heap.size w).alloc (Nat.le_refl _) (.cells #[.int .u8 m0, .int .i64 m1, .int .i64 m2, .int .i64 m3, .int .i64 m4, .int .i64 m5, .string (bs m6), .string (bs m7), .int .i64 m8, .int .i64 m9] 33)).alloc (by simp) (.cells #[.string (bs s), .int .u8 m0, .int .i64 m1, .int .i64 m2, .int .i64 m3, .int .i64 (bs m6).size, .int .i64 m4, .int .i64 m5, .string (bs m7), .string ⟨#[]⟩, .string ⟨#[]⟩, .int .i64 m8, .int .i64 m9, .string (bs m6), .slice none 0 0] 40)).alloc (by simp; omega) (.cells #[.string (bs s), .int .u8 m0, .int .i64 m1, .int .i64 m2, .int .i64 m3, .int .i64 (bs m6).size, .int .i64 m4, .int .i64 m5, .string (bs m7), .string ⟨#[]⟩, .string ⟨#[]⟩, .int .i64 m8, .int .i64 m9, .string (bs m6), .slice none 0 0] 40)
    have hb : Blk (((w.alloc (.cells #[.int .u8 m0, .int .i64 m1, .int .i64 m2, .int .i64 m3, .int .i64 m4, .int .i64 m5, .string (bs m6), .string (bs m7), .int .i64 m8, .int .i64 m9] 33)).alloc (.cells #[.string (bs s), .int .u8 m0, .int .i64 m1, .int .i64 m2, .int .i64 m3, .int .i64 (bs m6).size, .int .i64 m4, .int .i64 m5, .string (bs m7), .string ⟨#[]⟩, .string ⟨#[]⟩, .int .i64 m8, .int .i64 m9, .string (bs m6), .slice none 0 0] 40)).alloc (.cells #[.string (bs s), .int .u8 m0, .int .i64 m1, .int .i64 m2, .int .i64 m3, .int .i64 (bs m6).size, .int .i64 m4, .int .i64 m5, .string (bs m7), .string ⟨#[]⟩, .string ⟨#[]⟩, .int .i64 m8, .int .i64 m9, .string (bs m6), .slice none 0 0] 40)) (w.heap.size + 1) 40 #[.string (bs s), .int .u8 m0, .int .i64 m1, .int .i64 m2, .int .i64 m3, .int .i64 (bs m6).size, .int .i64 m4, .int .i64 m5, .string (bs m7), .string ⟨#[]⟩, .string ⟨#[]⟩, .int .i64 m8, .int .i64 m9, .string (bs m6), .slice none 0 0] := by
      have := (Blk.new (w.alloc (.cells #[.int .u8 m0, .int .i64 m1, .int .i64 m2, .int .i64 m3, .int .i64 m4, .int .i64 m5, .string (bs m6), .string (bs m7), .int .i64 m8, .int .i64 m9] 33)) 40 #[.string (bs s), .int .u8 m0, .int .i64 m1, .int .i64 m2, .int .i64 m3, .int .i64 (bs m6).size, .int .i64 m4, .int .i64 m5, .string (bs m7), .string ⟨#[]⟩, .string ⟨#[]⟩, .int .i64 m8, .int .i64 m9, .string (bs m6), .slice none 0 0]).alloc (.cells #[.string (bs s), .int .u8 m0, .int .i64 m1, .int .i64 m2, .int .i64 m3, .int .i64 (bs m6).size, .int .i64 m4, .int .i64 m5, .string (bs m7), .string ⟨#[]⟩, .string ⟨#[]⟩, .int .i64 m8, .int .i64 m9, .string (bs m6), .slice none 0 0] 40)
      rw [size_al] at this
      exact this
    go_wp2_with fail
    refine bodyPost_ret (results_en (p := 6) rfl _ _ (w.heap.size + 1) _ rfl rfl hb) rfl ?_
    exact ⟨_, rfl, MapIn.nil _ rfl, B⟩
  | true =>
    have hE2 := HE.out
    rw [if_neg (by simp)] at hE2
    have HE2 := Lib.hid hE2
    clear hE2 HE
    have hasc : Hol.Asc m6.length 0 (Hol.find m6 512) := Hol.find_asc m6 512 (by omega)
    obtain ⟨qs, hqs⟩ : ∃ qs, qs = Hol.find m6 512 := ⟨_, rfl⟩
    have hsz : Hol.size qs ≤ m6.length + 1 := by rw [hqs]; have := Hol.asc_size m6.length (Hol.find m6 512) 0 hasc (by omega); omega
    rw [← hqs] at HE2 hasc
    have HA := Lib.hid hasc
    obtain ⟨W, hW⟩ : ∃ W, W = ((w.alloc (.cells #[.int .u8 m0, .int .i64 m1, .int .i64 m2, .int .i64 m3, .int .i64 m4, .int .i64 m5, .string (bs m6), .string (bs m7), .int .i64 m8, .int .i64 m9] 33)).alloc (.cells #[.string ⟨#[]⟩, .int .u8 0, .int .i64 0, .int .i64 0, .int .i64 0, .int .i64 0, .int .i64 0, .int .i64 0, .string ⟨#[]⟩, .string ⟨#[]⟩, .string ⟨#[]⟩, .int .i64 0, .int .i64 0, .string ⟨#[]⟩, .slice none 0 0] 40)).alloc (.cells #[.string (bs s), .int .u8 m0, .int .i64 m1, .int .i64 m2, .int .i64 m3, .int .i64 (bs m6).size, .int .i64 m4, .int .i64 m5, .string (bs m7), .string ⟨#[]⟩, .string ⟨#[]⟩, .int .i64 m8, .int .i64 m9, .string (bs m6), .slice none 0 0] 40) := ⟨_, rfl⟩
    have B0 : Below w.heap.size w W := by rw [hW]; exact (((Below.refl w.heap.size w).alloc (Nat.le_refl _) (.cells #[.int .u8 m0, .int .i64 m1, .int .i64 m2, .int .i64 m3, .int .i64 m4, .int .i64 m5, .string (bs m6), .string (bs m7), .int .i64 m8, .int .i64 m9] 33)).alloc (by simp) (.cells #[.string ⟨#[]⟩, .int .u8 0, .int .i64 0, .int .i64 0, .int .i64 0, .int .i64 0, .int .i64 0, .int .i64 0, .string ⟨#[]⟩, .string ⟨#[]⟩, .string ⟨#[]⟩, .int .i64 0, .int .i64 0, .string ⟨#[]⟩, .slice none 0 0] 40)).alloc (by simp; omega) (.cells #[.string (bs s), .int .u8 m0, .int .i64 m1, .int .i64 m2, .int .i64 m3, .int .i64 (bs m6).size, .int .i64 m4, .int .i64 m5, .string (bs m7), .string ⟨#[]⟩, .string ⟨#[]⟩, .int .i64 m8, .int .i64 m9, .string (bs m6), .slice none 0 0] 40)
    have P1 : Blk W w.heap.size 33 #[.int .u8 m0, .int .i64 m1, .int .i64 m2, .int .i64 m3, .int .i64 m4, .int .i64 m5, .string (bs m6), .string (bs m7), .int .i64 m8, .int .i64 m9] := by rw [hW]; exact ((Blk.new w 33 #[.int .u8 m0, .int .i64 m1, .int .i64 m2, .int .i64 m3, .int .i64 m4, .int .i64 m5, .string (bs m6), .string (bs m7), .int .i64 m8, .int .i64 m9]).alloc _).alloc _
    have P2 : Blk W (w.heap.size + 1) 40 #[.string ⟨#[]⟩, .int .u8 0, .int .i64 0, .int .i64 0, .int .i64 0, .int .i64 0, .int .i64 0, .int .i64 0, .string ⟨#[]⟩, .string ⟨#[]⟩, .string ⟨#[]⟩, .int .i64 0, .int .i64 0, .string ⟨#[]⟩, .slice none 0 0] := by
      have := (Blk.new (w.alloc (.cells #[.int .u8 m0, .int .i64 m1, .int .i64 m2, .int .i64 m3, .int .i64 m4, .int .i64 m5, .string (bs m6), .string (bs m7), .int .i64 m8, .int .i64 m9] 33)) 40 #[.string ⟨#[]⟩, .int .u8 0, .int .i64 0, .int .i64 0, .int .i64 0, .int .i64 0, .int .i64 0, .int .i64 0, .string ⟨#[]⟩, .string ⟨#[]⟩, .string ⟨#[]⟩, .int .i64 0, .int .i64 0, .string ⟨#[]⟩, .slice none 0 0]).alloc (.cells #[.string (bs s), .int .u8 m0, .int .i64 m1, .int .i64 m2, .int .i64 m3, .int .i64 (bs m6).size, .int .i64 m4, .int .i64 m5, .string (bs m7), .string ⟨#[]⟩, .string ⟨#[]⟩, .int .i64 m8, .int .i64 m9, .string (bs m6), .slice none 0 0] 40)
      rw [size_al] at this
      rw [hW]; exact this
    have P3 : Blk W (w.heap.size + 1 + 1) 40 #[.string (bs s), .int .u8 m0, .int .i64 m1, .int .i64 m2, .int .i64 m3, .int .i64 (bs m6).size, .int .i64 m4, .int .i64 m5, .string (bs m7), .string ⟨#[]⟩, .string ⟨#[]⟩, .int .i64 m8, .int .i64 m9, .string (bs m6), .slice none 0 0] := by
      have := Blk.new ((w.alloc (.cells #[.int .u8 m0, .int .i64 m1, .int .i64 m2, .int .i64 m3, .int .i64 m4, .int .i64 m5, .string (bs m6), .string (bs m7), .int .i64 m8, .int .i64 m9] 33)).alloc (.cells #[.string ⟨#[]⟩, .int .u8 0, .int .i64 0, .int .i64 0, .int .i64 0, .int .i64 0, .int .i64 0, .int .i64 0, .string ⟨#[]⟩, .string ⟨#[]⟩, .string ⟨#[]⟩, .int .i64 0, .int .i64 0, .string ⟨#[]⟩, .slice none 0 0] 40)) 40 #[.string (bs s), .int .u8 m0, .int .i64 m1, .int .i64 m2, .int .i64 m3, .int .i64 (bs m6).size, .int .i64 m4, .int .i64 m5, .string (bs m7), .string ⟨#[]⟩, .string ⟨#[]⟩, .int .i64 m8, .int .i64 m9, .string (bs m6), .slice none 0 0]
      rw [size_al, size_al] at this
      rw [hW]; exact this
    have FD := Lib.hid (find_any (bs m6) 512 W (by rw [bs_size]; omega) (by omega) (by omega))
    rw [bs_list, ← hqs] at FD
    have hl1 := P1.lt
    have hl2 := P2.lt
    have hl3 := P3.lt
    have c6 : W.cell? ⟨w.heap.size, 6, none⟩ = some (.string (bs m6)) := P1.cell 6
    have HB0 := Lib.hid B0
    have H1 := Lib.hid P1
    have H2 := Lib.hid P2
    have H3 := Lib.hid P3
    clear hasc hqs B0 P1 P2 P3
    rw [← hW]
    clear hW
    repeat' ((fail_if_success (with_reducible refine halt_at 4 ?_)); first | go_values | go_skip | go_guarded | go_step | go_upon | go_back | (simp only [Int.not_lt, Int.not_le] at *; go_simp) | (go_values <;> (try go_simp)) | (go_ite <;> go_prune <;> (try go_simp)) | (split <;> (first | (rename_i hx; exact (hx _ rfl).elim) | go_prune)))
    go_wp2_with fail
    refine FD.out.mono ?_
    rintro e w3 ⟨v, Er, rfl, hV, h3⟩
    have B3 := Lib.hid (thenB HB0.out h3)
    have Q1 := H1.out.below h3 hl1
    have Q2 := H2.out.below h3 hl2
    have Q3 := H3.out.below h3 hl3
    have S1 := Lib.hid Q1
    have S2 := Lib.hid Q2
    have S3 := Lib.hid Q3
    have c6 : w3.cell? ⟨w.heap.size, 6, none⟩ = some (.string (bs m6)) := Q1.cell 6
    have k1 := Q1.lt
    have k2 := Q2.lt
    have k3 := Q3.lt
    have hWs := Lib.hid hl3
    clear h3 Q1 Q2 Q3 FD H1 H2 H3 hl1 hl2 hl3
    rcases hV with ⟨hq20, rfl, hP⟩ | ⟨hq20, rfl, rfl⟩
    rotate_left
    · have e : E = whole s ⟨m0, m1, m2, m3, m4, m5, m6, m7, m8, m9⟩ := by rw [HE2.out, if_pos (.inl hq20)]
      subst e
      repeat' ((fail_if_success (with_reducible refine halt_at 5 ?_)); first | go_values | go_skip | go_guarded | go_step | go_upon | go_back | (simp only [Int.not_lt, Int.not_le] at *; go_simp) | (go_values <;> (try go_simp)) | (go_ite <;> go_prune <;> (try go_simp)) | (split <;> (first | (rename_i hx; exact (hx _ rfl).elim) | go_prune)))
      go_region
      obtain ⟨w4, hw4⟩ : ∃ w4, w4 = w3.drew := ⟨_, rfl⟩
      have T2 : Hid (Blk w4 (w.heap.size + 1) 40 #[.string ⟨#[]⟩, .int .u8 0, .int .i64 0, .int .i64 0, .int .i64 0, .int .i64 0, .int .i64 0, .int .i64 0, .string ⟨#[]⟩, .string ⟨#[]⟩, .string ⟨#[]⟩, .int .i64 0, .int .i64 0, .string ⟨#[]⟩, .slice none 0 0]) := Lib.hid (by rw [hw4]; exact S2.out.drew)
      have T3 : Hid (Blk w4 (w.heap.size + 1 + 1) 40 #[.string (bs s), .int .u8 m0, .int .i64 m1, .int .i64 m2, .int .i64 m3, .int .i64 (bs m6).size, .int .i64 m4, .int .i64 m5, .string (bs m7), .string ⟨#[]⟩, .string ⟨#[]⟩, .int .i64 m8, .int .i64 m9, .string (bs m6), .slice none 0 0]) := Lib.hid (by rw [hw4]; exact S3.out.drew)
      have B4 : Hid (Below w.heap.size w w4) := Lib.hid (by rw [hw4]; exact B3.out.drew)
      rw [← hw4]
      clear hw4 c6
      go_wp2_with (first | (refine wpList_load_row rfl 40 (.tmp 7) rfl (w.heap.size + 1 + 1) rfl 40 _ (0, 0) _ T3.out Tryz.underlying40 rfl infoEn ?_) | (refine wpList_store_row rfl 40 (.tmp 6) (.tmp 52) rfl (w.heap.size + 1) _ rfl rfl 40 _ T2.out infoEn rfl (by simp only [List.all_toArray, List.all_cons, List.all_nil, Bool.and_true]; rfl) ?_))
      refine bodyPost_ret (results_en (p := 6) rfl _ _ (w.heap.size + 1) _ rfl rfl (T2.out.row _)) rfl ?_
      exact ⟨_, rfl, MapIn.nil _ rfl, below_setRow' B4.out (by omega) _⟩
    have HP := Lib.hid hP
    have PC := Lib.hid hP.pcs
    clear hP
    have SZ := Lib.hid (fun w' (hb : Below w3.heap.size w3 w') => size_any v qs w' (PC.out.below hb) (by omega) (by omega))
    have bw := Below.refl w3.heap.size w3
    obtain ⟨bad, hbad⟩ : ∃ bad, bad = decide (m6.length ≤ Hol.size qs) := ⟨_, rfl⟩
    have hgeq : decide (((bs m6).size : Int) ≤ (Hol.size qs : Int)) = bad := by rw [hbad, bs_size]; by_cases h : m6.length ≤ Hol.size qs <;> simp [h] <;> omega
    have HBAD := Lib.hid hbad
    clear hbad
    repeat' ((fail_if_success (with_reducible refine halt_at 5 ?_)); first | go_values | go_skip | go_guarded | go_step | go_upon | go_back | (simp only [Int.not_lt, Int.not_le] at *; go_simp) | (go_values <;> (try go_simp)) | (go_ite <;> go_prune <;> (try go_simp)) | (split <;> (first | (rename_i hx; exact (hx _ rfl).elim) | go_prune)))
    go_cut [51] (fun s51 wx => s51 = .bool bad ∧ Below w3.heap.size w3 wx)
    case first =>
      have KC := Lib.hid (fun w' (h : Below w3.heap.size w3 w') => (show w'.cell? ⟨w.heap.size, 6, none⟩ = some (.string (bs m6)) ∧ Below w3.heap.size w3 w' from ⟨(S1.out.below h k1).cell 6, h⟩))
      go_region_held3 (fun w' => w'.cell? ⟨w.heap.size, 6, none⟩ = some (.string (bs m6)) ∧ Below w3.heap.size w3 w')
        (first | (go_split_ands; refine KC.out _ ?_; first | with_reducible assumption | with_reducible exact Below.drew bw))
        (first
          | (go_at_call 99; go_split_ands; refine (SZ.out _ (by with_reducible assumption)).mono ?_; rintro e wt ⟨rfl, TT⟩; have TB : Below w3.heap.size w3 wt := (by with_reducible exact thenB (by assumption) TT))
          | fail)
      all_goals go_wp2_with fail
      all_goals go_meet
      all_goals exact ⟨by rw [HBAD.out]; rfl, TB⟩
    obtain ⟨rfl, hbx⟩ := hcut
    have T1 := Lib.hid (S1.out.below hbx k1)
    have T2 := Lib.hid (S2.out.below hbx k2)
    have T3 := Lib.hid (S3.out.below hbx k3)
    have TP := Lib.hid (HP.out.later hbx)
    have B4 := Lib.hid (thenB B3.out hbx)
    clear hbx c6 hgeq SZ
    cases bad with
    | true =>
      have e : E = whole s ⟨m0, m1, m2, m3, m4, m5, m6, m7, m8, m9⟩ := by rw [HE2.out, if_pos (.inr (of_decide_eq_true HBAD.out.symm))]
      subst e
      go_wp2_with (first | (refine wpList_load_row rfl 40 (.tmp 7) rfl (w.heap.size + 1 + 1) rfl 40 _ (0, 0) _ T3.out Tryz.underlying40 rfl infoEn ?_) | (refine wpList_store_row rfl 40 (.tmp 6) (.tmp 52) rfl (w.heap.size + 1) _ rfl rfl 40 _ T2.out infoEn rfl (by simp only [List.all_toArray, List.all_cons, List.all_nil, Bool.and_true]; rfl) ?_))
      refine bodyPost_ret (results_en (p := 6) rfl _ _ (w.heap.size + 1) _ rfl rfl (T2.out.row _)) rfl ?_
      exact ⟨_, rfl, MapIn.nil _ rfl, below_setRow' B4.out (by omega) _⟩
    | false =>
      have hnb : ¬ m6.length ≤ Hol.size qs := fun h => by have := HBAD.out; rw [decide_eq_true h] at this; cases this
      have e : E = { whole s ⟨m0, m1, m2, m3, m4, m5, m6, m7, m8, m9⟩ with map := qs.map Hol.castP, data := Hol.take m6 qs } := by rw [HE2.out, if_neg (by omega)]
      subst e
      obtain ⟨X, capp, rfl, _⟩ := TP.out.form
      have d6 := T1.out.cell 6
      have d13 := T3.out.cell 13
      have d14 := T3.out.cell 14
      simp only [List.getElem?_toArray, List.getElem?_cons_succ, List.getElem?_cons_zero] at d6 d13 d14
      have f14 := T3.out.frozen 14
      have l1 := T1.out.lt
      have l3 := T3.out.lt
      repeat' ((fail_if_success (with_reducible refine halt_at 8 ?_)); first | go_values | go_skip | go_guarded | go_step | go_upon | go_back | (simp only [Int.not_lt, Int.not_le] at *; go_simp) | (go_values <;> (try go_simp)) | (go_ite <;> go_prune <;> (try go_simp)) | (split <;> (first | (rename_i hx; exact (hx _ rfl).elim) | go_prune)))
      obtain ⟨w5, hw5⟩ : ∃ w5, w5 = wc.setCell ⟨w.heap.size + 1 + 1, 14, none⟩ (.slice X qs.length capp) := ⟨_, rfl⟩
      have g5 : wc.grownBy w5 (some (w.heap.size + 1 + 1)) := by rw [hw5]; exact only_setCell (only_refl _ _) (.inl rfl) _
      have B5 := below_of_only B4.out g5 B4.out.size (by omega)
      have U1 : Blk w5 w.heap.size 33 #[.int .u8 m0, .int .i64 m1, .int .i64 m2, .int .i64 m3, .int .i64 m4, .int .i64 m5, .string (bs m6), .string (bs m7), .int .i64 m8, .int .i64 m9] := by rw [hw5]; exact T1.out.far (by show w.heap.size ≠ w.heap.size + 1 + 1; omega) _
      have U2 : Blk w5 (w.heap.size + 1) 40 #[.string ⟨#[]⟩, .int .u8 0, .int .i64 0, .int .i64 0, .int .i64 0, .int .i64 0, .int .i64 0, .int .i64 0, .string ⟨#[]⟩, .string ⟨#[]⟩, .string ⟨#[]⟩, .int .i64 0, .int .i64 0, .string ⟨#[]⟩, .slice none 0 0] := by rw [hw5]; exact T2.out.far (by show w.heap.size + 1 ≠ w.heap.size + 1 + 1; omega) _
      have U3 : Blk w5 (w.heap.size + 1 + 1) 40 #[.string (bs s), .int .u8 m0, .int .i64 m1, .int .i64 m2, .int .i64 m3, .int .i64 (bs m6).size, .int .i64 m4, .int .i64 m5, .string (bs m7), .string ⟨#[]⟩, .string ⟨#[]⟩, .int .i64 m8, .int .i64 m9, .string (bs m6), .slice X qs.length capp] := by
        rw [hw5]; exact T3.out.set_ 14 _
      have UP : HasP w5 W.heap.size (.slice X qs.length capp) qs := World.ownsRow.kept TP.out g5 (by
        cases X with
        | none => exact .inl rfl
        | some x =>
          right
          intro e
          have := (World.ownsRow.lt TP.out x.block rfl).1
          have e2 : x.block = w.heap.size + 1 + 1 := by simpa [Value.ownBlock] using e
          have := hWs.out
          omega)
      have TK := Lib.hid (take_any (bs m6) (.slice X qs.length capp) qs w5 UP.pcs (by rw [bs_size]; exact HA.out) (by omega) (by rw [bs_size]; omega))
      rw [bs_list] at TK
      have e6 : w5.cell? ⟨w.heap.size, 6, none⟩ = some (.string (bs m6)) := U1.cell 6
      have n1 := U1.lt
      have HB5 := Lib.hid B5
      have HU2 := Lib.hid U2
      have HU3 := Lib.hid U3
      have HUP := Lib.hid UP
      have hz2 := U2.lt
      have hz3 := U3.lt
      rw [← hw5]
      clear hw5 g5 B5 U1 U2 U3 UP d6 d13 d14 f14 l1 l3 T1 T2 T3 TP
      go_wp2_with fail
      refine TK.out.mono ?_
      rintro e w6 ⟨rfl, h6⟩
      have B6 := Lib.hid (thenB HB5.out h6)
      have V2 := Lib.hid (HU2.out.below h6 hz2)
      have V3 := Lib.hid (HU3.out.below h6 hz3)
      have VP := Lib.hid (HUP.out.later h6)
      have d13 := V3.out.cell 13
      have f13 := V3.out.frozen 13
      simp only [List.getElem?_toArray, List.getElem?_cons_succ, List.getElem?_cons_zero] at d13
      have l3 := V3.out.lt
      clear h6 e6 n1 HU2 HU3 HUP hz2 hz3 TK
      repeat' ((fail_if_success (with_reducible refine halt_at 9 ?_)); first | go_values | go_skip | go_guarded | go_step | go_upon | go_back | (simp only [Int.not_lt, Int.not_le] at *; go_simp) | (go_values <;> (try go_simp)) | (go_ite <;> go_prune <;> (try go_simp)) | (split <;> (first | (rename_i hx; exact (hx _ rfl).elim) | go_prune)))
      obtain ⟨w7, hw7⟩ : ∃ w7, w7 = w6.setCell ⟨w.heap.size + 1 + 1, 13, none⟩ (.string ⟨(Hol.take m6 qs).toArray⟩) := ⟨_, rfl⟩
      have g7 : w6.grownBy w7 (some (w.heap.size + 1 + 1)) := by rw [hw7]; exact only_setCell (only_refl _ _) (.inl rfl) _
      have B7 := Lib.hid (below_of_only B6.out g7 B6.out.size (by omega))
      have T2 : Hid (Blk w7 (w.heap.size + 1) 40 #[.string ⟨#[]⟩, .int .u8 0, .int .i64 0, .int .i64 0, .int .i64 0, .int .i64 0, .int .i64 0, .int .i64 0, .string ⟨#[]⟩, .string ⟨#[]⟩, .string ⟨#[]⟩, .int .i64 0, .int .i64 0, .string ⟨#[]⟩, .slice none 0 0]) := Lib.hid (by rw [hw7]; exact V2.out.far (by show w.heap.size + 1 ≠ w.heap.size + 1 + 1; omega) _)
      have T3 : Hid (Blk w7 (w.heap.size + 1 + 1) 40 #[.string (bs s), .int .u8 m0, .int .i64 m1, .int .i64 m2, .int .i64 m3, .int .i64 (bs m6).size, .int .i64 m4, .int .i64 m5, .string (bs m7), .string ⟨#[]⟩, .string ⟨#[]⟩, .int .i64 m8, .int .i64 m9, .string (bs (Hol.take m6 qs)), .slice X qs.length capp]) := Lib.hid (by rw [hw7]; exact V3.out.set_ 13 _)
      have VX := (World.ownsRow.lt VP.out)
      have XP := Lib.hid (World.ownsRow.kept (w' := w7.setRow (w.heap.size + 1) #[.string (bs s), .int .u8 m0, .int .i64 m1, .int .i64 m2, .int .i64 m3, .int .i64 (bs m6).size, .int .i64 m4, .int .i64 m5, .string (bs m7), .string ⟨#[]⟩, .string ⟨#[]⟩, .int .i64 m8, .int .i64 m9, .string (bs (Hol.take m6 qs)), .slice X qs.length capp]) (World.ownsRow.kept VP.out g7 (by
        cases X with
        | none => exact .inl rfl
        | some x =>
          right
          intro e
          have := (VX x.block rfl).1
          have e2 : x.block = w.heap.size + 1 + 1 := by simpa [Value.ownBlock] using e
          have := hWs.out
          omega)) (only_setRow (only_refl w7 _) (.inl rfl) _) (by
        cases X with
        | none => exact .inl rfl
        | some x =>
          right
          intro e
          have := (VX x.block rfl).1
          have e2 : x.block = w.heap.size + 1 := by simpa [Value.ownBlock] using e
          have := hWs.out
          omega))
      rw [← hw7]
      clear hw7 g7 V2 V3 VP d13 f13 l3 VX
      go_wp2_with (first | (refine wpList_load_row rfl 40 (.tmp 7) rfl (w.heap.size + 1 + 1) rfl 40 _ (0, 0) _ T3.out Tryz.underlying40 rfl infoEn ?_) | (refine wpList_store_row rfl 40 (.tmp 6) (.tmp 63) rfl (w.heap.size + 1) _ rfl rfl 40 _ T2.out infoEn rfl (by simp only [List.all_toArray, List.all_cons, List.all_nil, Bool.and_true]; rfl) ?_))
      refine bodyPost_ret (results_en (p := 6) rfl _ _ (w.heap.size + 1) _ rfl rfl (T2.out.row _)) rfl ?_
      exact ⟨_, rfl, ⟨qs, rfl, (show HasP _ _ _ _ from XP.out).mono (Nat.zero_le _)⟩, below_setRow' B7.out (by omega) _⟩

end Go.Proofs.YtipajekehbpghaaGreatDoor

namespace Go.Proofs.YtipajekehbpghaaGreatDoor
open Go.RowKit Go.Maps Tre Pk

theorem first_hit {t : T} {L : List Pth.Bs} {i k : Nat} (hk : k < i) (hi : i < L.length) (hno : ∀ j (hj : j < k), t.alike (L[j]'(by omega)) L[i] = false) (hy : t.alike (L[k]'(by omega)) L[i] = true) : first t (L.take i) L[i] = L[k]'(by omega) := by
  have e : (L.take i).find? (fun x => t.alike x L[i]) = some (L[k]'(by omega)) := by
    rw [List.find?_eq_some_iff_getElem]
    refine ⟨hy, k, by rw [List.length_take]; omega, by rw [List.getElem_take], fun j hj => ?_⟩
    rw [List.getElem_take, hno j hj]
    rfl
  unfold first
  rw [e]; rfl
theorem first_miss {t : T} {L : List Pth.Bs} {i : Nat} (hi : i < L.length) (hno : ∀ j (hj : j < i), t.alike (L[j]'(by omega)) L[i] = false) : first t (L.take i) L[i] = [] := by
  have e : (L.take i).find? (fun x => t.alike x L[i]) = none := by
    rw [List.find?_eq_none]
    intro x hx
    obtain ⟨j, hj, rfl⟩ := List.getElem_of_mem hx
    have hj' : j < i := by rw [List.length_take] at hj; omega
    rw [List.getElem_take, hno j hj']
    simp
  unfold first
  rw [e]; rfl

set_option maxRecDepth 100000 in
set_option maxHeartbeats 4000000 in
theorem first_any {w : World} {g : Nat} {on of : Option Nat} {t : T} (h : TreeAt w g on of t) {b off cap pn pt : Nat} {L : List Pth.Bs} (hr : RowS w b off L) (hb : b < w.heap.size) (hc : L.length ≤ cap) (hl : L.length ≤ 1000) (hz : ∀ s ∈ L, s.length ≤ 1000)
    (hn : w.cell? ⟨pn, 0, none⟩ = some (.slice (some ⟨b, off, none⟩) L.length cap)) (ht : w.cell? ⟨pt, 0, none⟩ = some (.pointer (some ⟨g, 0, none⟩))) (i : Nat) (hi : i < L.length) :
    Calls Tryz.prog 51 #[.int .i64 i, .pointer (some ⟨pn, 0, none⟩), .pointer (some ⟨pt, 0, none⟩)] w fun e w' => e = .returned (.string (bs (first t (L.take i) L[i]))) ∧ Below w.heap.size w w' := by
  have hpn := World.block_lt_of_cell? w ⟨pn, 0, none⟩ hn
  have hpt := World.block_lt_of_cell? w ⟨pt, 0, none⟩ ht
  simp only at hpn hpt
  have HR := Lib.hid hr
  have HZ := Lib.hid hz
  have HN := Lib.hid hn
  have HT := Lib.hid ht
  have HH := Lib.hid h
  have hii : (i : Int) < L.length := by omega
  have hic : (i : Int) ≤ cap := by omega
  have hil : (i : Int) ≤ 1000 := by omega
  clear hr hz h
  obtain ⟨s, hs⟩ : ∃ s, s = L[i] := ⟨_, rfl⟩
  have hsl : s.length ≤ 1000 := by rw [hs]; exact HZ.out _ (List.getElem_mem hi)
  obtain ⟨R, hR⟩ : ∃ R, R = first t (L.take i) s := ⟨_, rfl⟩
  rw [← hs, ← hR]
  have HS := Lib.hid hs
  have HRR := Lib.hid hR
  clear hs hR
  go_enter Tryz.func51, Tryz.ntmps51
  go_wp2_with fail
  go_loopg [11] (i) (fun gg kv wr => ∃ k : Nat, kv = .int .i64 k ∧ k ≤ i ∧ k + gg = i ∧ Hid (∀ j (hj : j < k), ∀ x, L[j]? = some x → t.alike x s = false) ∧ Below w.heap.size w wr)
  case atStart => exact ⟨0, rfl, Nat.zero_le _, by omega, Lib.hid (fun j hj => absurd hj (Nat.not_lt_zero j)), Below.refl _ _⟩
  case round =>
    obtain ⟨k, rfl, hk, hg, HK, hbw⟩ := hrel
    have HG := Lib.hid hg
    have HW := Lib.hid hbw
    clear hg hbw
    by_cases hlt : k < i
    · have hlti : (k : Int) < i := by omega
      have hkl : k < L.length := by omega
      have ck : wr.cell? ⟨b, off + k, none⟩ = some (.string (bs L[k])) := (HW.out.cell (p := ⟨b, off + k, none⟩) hb).trans (HR.out k hkl)
      have ci : wr.cell? ⟨b, off + i, none⟩ = some (.string (bs s)) := by rw [HS.out]; exact (HW.out.cell (p := ⟨b, off + i, none⟩) hb).trans (HR.out i hi)
      have cn : wr.cell? ⟨pn, 0, none⟩ = some (.slice (some ⟨b, off, none⟩) L.length cap) := (HW.out.cell (p := ⟨pn, 0, none⟩) hpn).trans HN.out
      have ct : wr.cell? ⟨pt, 0, none⟩ = some (.pointer (some ⟨g, 0, none⟩)) := (HW.out.cell (p := ⟨pt, 0, none⟩) hpt).trans HT.out
      obtain ⟨x, hx⟩ : ∃ x, x = L[k] := ⟨_, rfl⟩
      have hxl : x.length ≤ 1000 := by rw [hx]; exact HZ.out _ (List.getElem_mem hkl)
      rw [← hx] at ck
      have AK := Lib.hid (fun w' (hb : Below wr.heap.size wr w') => alike_any ((HH.out.below HW.out).below hb) (bs x) (bs s) (by rw [bs_size]; omega) (by rw [bs_size]; omega))
      rw [bs_list, bs_list] at AK
      obtain ⟨q, hq⟩ : ∃ q, q = t.alike x s := ⟨_, rfl⟩
      rw [← hq] at AK
      have HQ := Lib.hid hq
      have HX := Lib.hid hx
      have KC := Lib.hid (fun w' (h : Below wr.heap.size wr w') => (show w'.cell? ⟨pn, 0, none⟩ = some (.slice (some ⟨b, off, none⟩) L.length cap) ∧ w'.cell? ⟨pt, 0, none⟩ = some (.pointer (some ⟨g, 0, none⟩)) ∧ w'.cell? ⟨b, off + i, none⟩ = some (.string (bs s)) ∧ Below wr.heap.size wr w' from
        ⟨(h.cell (p := ⟨pn, 0, none⟩) (Nat.lt_of_lt_of_le hpn HW.out.size)).trans cn, (h.cell (p := ⟨pt, 0, none⟩) (Nat.lt_of_lt_of_le hpt HW.out.size)).trans ct, (h.cell (p := ⟨b, off + i, none⟩) (Nat.lt_of_lt_of_le hb HW.out.size)).trans ci, h⟩))
      have bw := Below.refl wr.heap.size wr
      have k1 : (0 : Int) ≤ i := by omega
      have k2 : (0 : Int) ≤ k := by omega
      have k3 : (k : Int) < L.length := by omega
      clear hq hx
      cases q with
      | true =>
        have FIN := Lib.hid (show R = x by rw [HRR.out, HS.out, HX.out]; exact first_hit hlt hi (fun j hj => by have := HK.out j hj _ (List.getElem?_eq_getElem (by omega)); rw [HS.out] at this; exact this) (by have := HQ.out.symm; rw [HX.out, HS.out] at this; exact this))
        go_wp2_with fail
        go_region_held3 (fun w' => w'.cell? ⟨pn, 0, none⟩ = some (.slice (some ⟨b, off, none⟩) L.length cap) ∧ w'.cell? ⟨pt, 0, none⟩ = some (.pointer (some ⟨g, 0, none⟩)) ∧ w'.cell? ⟨b, off + i, none⟩ = some (.string (bs s)) ∧ Below wr.heap.size wr w')
          (first | (go_split_ands; refine KC.out _ ?_; first | with_reducible assumption | with_reducible exact Below.drew bw))
          (first
            | (go_at_call 32; go_split_ands; refine (AK.out _ (by with_reducible assumption)).mono ?_; rintro e wt ⟨rfl, hw⟩; subst wt)
            | fail)
        all_goals go_wp2_with fail
        all_goals go_ret
        all_goals exact ⟨by rw [FIN.out]; rfl, by first | exact HW.out.drew | exact HW.out⟩
      | false =>
        have HK2 := Lib.hid (show ∀ j (hj : j < k + 1), ∀ x, L[j]? = some x → t.alike x s = false from fun j hj y hy => by
          by_cases e : j = k
          · subst e
            rw [List.getElem?_eq_getElem hkl] at hy
            rw [← Option.some.inj hy, ← HX.out]; exact HQ.out.symm
          · exact HK.out j (by omega) y hy)
        go_wp2_with fail
        go_region_held3 (fun w' => w'.cell? ⟨pn, 0, none⟩ = some (.slice (some ⟨b, off, none⟩) L.length cap) ∧ w'.cell? ⟨pt, 0, none⟩ = some (.pointer (some ⟨g, 0, none⟩)) ∧ w'.cell? ⟨b, off + i, none⟩ = some (.string (bs s)) ∧ Below wr.heap.size wr w')
          (first | (go_split_ands; refine KC.out _ ?_; first | with_reducible assumption | with_reducible exact Below.drew bw))
          (first
            | (go_at_call 32; go_split_ands; refine (AK.out _ (by with_reducible assumption)).mono ?_; rintro e wt ⟨rfl, hw⟩; subst wt)
            | fail)
        all_goals go_wp2_with fail
        all_goals go_roundg (i - (k + 1))
        case measure => have := HG.out; omega
        case rel => exact ⟨k + 1, by go_num, by omega, by omega, HK2, by first | exact HW.out.drew | exact HW.out⟩
    · obtain rfl : k = i := by omega
      go_wp2_with fail
      go_ret
      exact ⟨by rw [HRR.out, HS.out, first_miss hi (fun j hj => by have := HK.out j hj _ (List.getElem?_eq_getElem (by omega)); rw [HS.out] at this; exact this)]; rfl, HW.out⟩

end Go.Proofs.YtipajekehbpghaaGreatDoor

namespace Go.Proofs.YtipajekehbpghaaGreatDoor
open Go.RowKit Go.Maps Tre Pk

theorem infoEnt : (Tryz.prog.info? 40).map (fun i => (i.zero, i.size, i.bytes)) = some (some (.agg #[.string ⟨#[]⟩, .int .u8 0, .int .i64 0, .int .i64 0, .int .i64 0, .int .i64 0, .int .i64 0, .int .i64 0, .string ⟨#[]⟩, .string ⟨#[]⟩, .string ⟨#[]⟩, .int .i64 0, .int .i64 0, .string ⟨#[]⟩, .slice none 0 0]), 15, 176) := by kernel_rfl
theorem evc_one (e : Ent) (mv : Value) (h : mv.oneCell' = true) : ∀ u ∈ (evc e mv).toList, u.oneCell' = true := by
  intro u hu
  unfold evc at hu
  simp only [List.mem_cons, List.not_mem_nil, or_false] at hu
  rcases hu with rfl | rfl | rfl | rfl | rfl | rfl | rfl | rfl | rfl | rfl | rfl | rfl | rfl | rfl | rfl <;> first | rfl | exact h
theorem rightN_bd {n : Nd} (h : rightN n = true) : n.kind ≤ 255 ∧ n.link.length ≤ 120 ∧ n.data.length ≤ 4000 := by
  unfold rightN inR at h
  simp only [Bool.and_eq_true, decide_eq_true_eq] at h
  obtain ⟨⟨⟨⟨⟨h0, _⟩, _⟩, ⟨_, hl⟩, _⟩, _⟩, hd⟩ := h
  refine ⟨by omega, hl, ?_⟩
  split at hd
  · simpa using hd
  · have : n.data = [] := by simpa using hd
    rw [this]; exact Nat.zero_le _
/-- What List hands out. -/
def ListPost (w : World) (l : List Ent) (e : Ending) (w' : World) : Prop := ∃ v ps, e = .returned v ∧ ps.map Prod.fst = l ∧ EntsIn w' w.heap.size v ps ∧ Below w.heap.size w w'
theorem ListPost.mk {w w' : World} {l : List Ent} {v : Value} (ps : List (Ent × Value)) (h1 : ps.map Prod.fst = l) (h2 : EntsIn w' w.heap.size v ps) (h3 : Below w.heap.size w w') : ListPost w l (.returned v) w' := ⟨v, ps, rfl, h1, h2, h3⟩
theorem MapIn.one {w : World} {e : Ent} {mv : Value} (h : MapIn w e mv) : mv.oneCell' = true := by
  obtain ⟨qs, _, h1⟩ := h
  rcases h1.2 with ⟨rfl, _⟩ | ⟨g, cap, cur, rfl, _⟩ <;> rfl

set_option maxRecDepth 100000 in
set_option maxHeartbeats 8000000 in
theorem list_any {w : World} {g : Nat} {on of : Option Nat} {t : T} (h : TreeAt w g on of t) (ht : Std t) (hx : t.nx ≤ 100000) (hm : ML w) (holes : Bool) :
    Calls Tryz.prog 16 #[.pointer (some ⟨g, 0, none⟩), .bool holes] w (ListPost w (list t holes)) := by
  obtain ⟨i0, i1, i2, i3, i4⟩ := info_parts infoEnt
  have NM := Lib.hid (fun w' (hb : Below w.heap.size w w') => names_any (h.below hb) ht (hm.below hb))
  have HT := Lib.hid h
  have HS := Lib.hid ht
  have hln : t.names.length ≤ 60 := by rw [names_len]; exact ht.cn
  have HNN := Lib.hid (show ∀ s k, Tre.look t.ents s = some k → k ≤ 1000000 from fun s k h => by have := (ht.short h).2; omega)
  have B1 := (Below.refl w.heap.size w).alloc (Nat.le_refl _) (.cells #[.pointer (some ⟨g, 0, none⟩)] 24)
  have K1 := Lib.hid (Blk.new w 24 #[.pointer (some ⟨g, 0, none⟩)])
  have hk1 := K1.out.lt
  have BB1 := Lib.hid B1
  have HNM := Lib.hid (show ∀ s ∈ t.names, ∃ k, Tre.look t.ents s = some k ∧ Pth.right s = true ∧ rightN (t.file k) = true from fun s hs => by obtain ⟨k, a, b, c, _⟩ := ht.name hs; exact ⟨k, a, b, c⟩)
  clear h ht hm hx B1
  go_enter Tryz.func16, Tryz.ntmps16
  go_wp2_with fail
  refine (NM.out _ BB1.out).mono ?_
  rintro e w3 ⟨v3, rfl, hv, h3⟩
  have B3 := Lib.hid (thenB BB1.out h3)
  have K3 := Lib.hid (K1.out.below h3 hk1)
  have hs := hv.has
  clear hv h3 hk1 NM
  rcases hs.ways with ⟨A, c3, rfl, h0⟩ | ⟨b, off, c3, rfl, hc3, _, hb3, hpos, hrow⟩
  · have hl : list t holes = [] := by unfold list; rw [h0]; rfl
    have B4 := Lib.hid (B3.out.alloc B3.out.size (.cells #[.slice A ([] : List Pth.Bs).length c3] 28))
    clear hs
    go_wp2_with fail
    refine wp_loop_rounds 1 ?_
    rw [rounds_succ]
    go_wp2_with fail
    go_ret
    exact ListPost.mk [] (by rw [hl]; rfl) (EntsIn.nil _ _) (B3.out.alloc B3.out.size _)
  obtain ⟨L, hL⟩ : ∃ L, L = t.names := ⟨_, rfl⟩
  have hlist : list t holes = listGo t holes [] L := by unfold list; rw [hL]
  rw [← hL] at hrow hln hpos hc3 HNM
  have hln2 : t.names.length = L.length := by rw [hL]
  rw [hln2]
  have hli : (L.length : Int) ≤ 60 := by omega
  obtain ⟨w4, hw4⟩ : ∃ w4, w4 = w3.alloc (.cells #[.slice (some ⟨b, off, none⟩) L.length c3] 28) := ⟨_, rfl⟩
  have B34 : Below w3.heap.size w3 w4 := by rw [hw4]; exact (Below.refl _ _).alloc (Nat.le_refl _) _
  have B4 := Lib.hid (thenB B3.out B34)
  have hk3 := K3.out.lt
  have K4 := Lib.hid (K3.out.below B34 hk3)
  have N4 : Hid (Blk w4 w3.heap.size 28 #[.slice (some ⟨b, off, none⟩) L.length c3]) := Lib.hid (by rw [hw4]; exact Blk.new w3 _ _)
  have R4 := Lib.hid (hrow.below B34 hb3)
  have hb4 : b < w4.heap.size := Nat.lt_of_lt_of_le hb3 B34.size
  have hk4 := K4.out.lt
  have hn4 := N4.out.lt
  have cn4 : w4.cell? ⟨w3.heap.size, 0, none⟩ = some (.slice (some ⟨b, off, none⟩) L.length c3) := N4.out.cell 0
  have HLI := Lib.hid hlist
  clear hs hrow hL hln2 hlist B34 K1 BB1 K3
  go_wp2_with fail
  rw [← hw4]
  clear hw4
  go_loopg [5, 18] (L.length) (fun gg ov iv wr => ∃ (i : Nat) (ps : List (Ent × Value)), iv = .int .i64 i ∧ i + gg = L.length ∧ Hid (ps.map Prod.fst = (listGo t holes [] L).take i) ∧ Hid (EntsIn wr w4.heap.size ov ps) ∧ Below w4.heap.size w4 wr)
  case atStart => exact ⟨0, [], rfl, by omega, Lib.hid rfl, Lib.hid (EntsIn.nil _ _), Below.refl _ _⟩
  case round =>
    obtain ⟨i, ps, rfl, hg, HPS, HEN, hbw⟩ := hrel
    obtain ⟨X, capo, rfl⟩ := HEN.out.form
    have HG := Lib.hid hg
    have HW := Lib.hid hbw
    have hpl : ps.length = i := by
      have := congrArg List.length HPS.out
      rw [List.length_map, List.length_take, listGo_len] at this
      omega
    have hil : i ≤ L.length := by omega
    have HPL := Lib.hid hpl
    have hpb : ps.length ≤ 60 := by omega
    clear hg hbw hpl
    by_cases hlt : i < L.length
    · obtain ⟨s, hs⟩ : ∃ s, s = L[i] := ⟨_, rfl⟩
      have HSS := Lib.hid hs
      have hmem : s ∈ L := by rw [hs]; exact List.getElem_mem hlt
      obtain ⟨k, hk, hr, hrn⟩ := HNM.out s hmem
      have hsl := (right_len hr).1
      have ck : wr.cell? ⟨b, off + i, none⟩ = some (.string (bs s)) := by rw [hs]; exact (HW.out.cell (p := ⟨b, off + i, none⟩) hb4).trans (R4.out i hlt)
      have kt := Lib.hid (K4.out.below HW.out hk4)
      have ct : wr.cell? ⟨w.heap.size, 0, none⟩ = some (.pointer (some ⟨g, 0, none⟩)) := kt.out.cell 0
      have hkl := kt.out.lt
      have BW := Lib.hid (thenB B4.out HW.out)
      have GB := Lib.hid (get_any (HT.out.below BW.out) (bs s) (fun k hk => HNN.out _ k hk) (by rw [bs_size]; omega))
      have hgv : getV t (bs s).data.toList = .tuple #[ndv (t.file k), .nilIface] := getV_of (by rw [bs_list]; exact hk)
      rw [hgv] at GB
      have FA := Lib.hid (fun w' (hb : Below wr.heap.size wr w') => first_any (w := w') (pn := w3.heap.size) (pt := w.heap.size) ((HT.out.below BW.out).below hb) ((R4.out.below HW.out hb4).below hb (Nat.lt_of_lt_of_le hb4 HW.out.size)) (Nat.lt_of_lt_of_le (Nat.lt_of_lt_of_le hb4 HW.out.size) hb.size) hc3 (by omega)
        (fun s hs => by obtain ⟨_, _, hr, _⟩ := HNM.out s hs; have := (right_len hr).1; omega)
        (((N4.out.below HW.out hn4).below hb (Nat.lt_of_lt_of_le hn4 HW.out.size)).cell 0) ((kt.out.below hb hkl).cell 0) i hlt)
      rw [← hs] at FA
      have hmb : (listGo t holes [] L)[i]'(by rw [listGo_len]; exact hlt) = memb t holes (L.take i) s := by
        rw [listGo_get t holes L [] i hlt, List.nil_append, hs]
      have hnat := nodeAt_of hk
      obtain ⟨f, hf⟩ : ∃ f, f = first t (L.take i) s := ⟨_, rfl⟩
      rw [← hf] at FA
      have hfl : f.length ≤ 120 := by
        by_cases e : f = []
        · rw [e]; exact Nat.zero_le _
        · rw [hf] at e
          obtain ⟨_, _, hrf, _⟩ := HNM.out _ (List.mem_of_mem_take (first_spec e).1)
          rw [hf]; exact (right_len hrf).1
      have hmb2 : memb t holes (L.take i) s = if f = [] then entry s (t.file k) holes else hard s f (t.file k) := by unfold memb; rw [hnat, ← hf]
      rw [hmb2] at hmb
      obtain ⟨n, hn⟩ : ∃ n, n = t.file k := ⟨_, rfl⟩
      rw [← hn] at GB hmb hrn
      have hl3 := rightN_bd hrn
      have NXT := Lib.hid (show ∀ mv, ((ps ++ [((if f = [] then entry s n holes else hard s f n), mv)]).map Prod.fst) = (listGo t holes [] L).take (i + 1) from fun mv => by
        rw [List.map_append, HPS.out, ← hmb, List.take_succ_eq_append_getElem (by rw [listGo_len]; exact hlt)]; rfl)
      obtain ⟨m0, m1, m2, m3, m4, m5, m6, m7, m8, m9⟩ := n
      have EA := Lib.hid (fun w' => entry_any s ⟨m0, m1, m2, m3, m4, m5, m6, m7, m8, m9⟩ holes w' hl3.1 hl3.2.2)
      unfold ndv ndc at GB EA
      simp only at GB EA
      have hlti : (i : Int) < L.length := by omega
      clear hs hmem hk hr hrn hgv hnat hf hmb hmb2 hn hl3
      go_wp2_with fail
      refine GB.out.mono ?_
      rintro e w5 ⟨rfl, h5⟩
      have k5 := kt.out.below h5 hkl
      have B6 := h5.alloc h5.size (.cells #[.int .u8 m0, .int .i64 m1, .int .i64 m2, .int .i64 m3, .int .i64 m4, .int .i64 m5, .string (bs m6), .string (bs m7), .int .i64 m8, .int .i64 m9] 33)
      have P6 := Blk.new w5 33 #[.int .u8 m0, .int .i64 m1, .int .i64 m2, .int .i64 m3, .int .i64 m4, .int .i64 m5, .string (bs m6), .string (bs m7), .int .i64 m8, .int .i64 m9]
      have hp6 := P6.lt
      have HP6 := Lib.hid P6
      have HB6 := Lib.hid B6
      have FA6 := Lib.hid (FA.out _ B6)
      have hpz : wr.heap.size ≤ w5.heap.size := h5.size
      clear h5 k5 P6 B6 GB FA
      go_wp2_with fail
      refine FA6.out.mono ?_
      rintro e w7 ⟨rfl, h7⟩
      have B7 := Lib.hid (thenB HB6.out h7)
      have P7 := HP6.out.below h7 hp6
      have c0 : w7.cell? ⟨w5.heap.size, 0, none⟩ = some (.int .u8 m0) := P7.cell 0
      have c1 : w7.cell? ⟨w5.heap.size, 1, none⟩ = some (.int .i64 m1) := P7.cell 1
      have c2 : w7.cell? ⟨w5.heap.size, 2, none⟩ = some (.int .i64 m2) := P7.cell 2
      have c3 : w7.cell? ⟨w5.heap.size, 3, none⟩ = some (.int .i64 m3) := P7.cell 3
      have c4 : w7.cell? ⟨w5.heap.size, 4, none⟩ = some (.int .i64 m4) := P7.cell 4
      have c5 : w7.cell? ⟨w5.heap.size, 5, none⟩ = some (.int .i64 m5) := P7.cell 5
      have c6 : w7.cell? ⟨w5.heap.size, 6, none⟩ = some (.string (bs m6)) := P7.cell 6
      have c7 : w7.cell? ⟨w5.heap.size, 7, none⟩ = some (.string (bs m7)) := P7.cell 7
      have c8 : w7.cell? ⟨w5.heap.size, 8, none⟩ = some (.int .i64 m8) := P7.cell 8
      have c9 : w7.cell? ⟨w5.heap.size, 9, none⟩ = some (.int .i64 m9) := P7.cell 9
      have p7 := P7.lt
      have E7 := Lib.hid (HEN.out.below B7.out)
      have BB7 := Lib.hid (HW.out.trans (B7.out.mono HW.out.size))
      clear h7 P7 hp6 HP6 HB6 FA6
      by_cases hf0 : f = []
      · have hdn : (bs f).toList = [] := (str_nil f).2 hf0
        have hde : (bs f).toList.isEmpty = true := by rw [List.isEmpty_iff]; exact hdn
        have NX2 := Lib.hid (fun mv => NXT.out mv)
        rw [if_pos hf0] at NX2
        obtain ⟨E, hE⟩ : ∃ E, E = entry s ⟨m0, m1, m2, m3, m4, m5, m6, m7, m8, m9⟩ holes := ⟨_, rfl⟩
        rw [← hE] at NX2 EA
        clear hf0 NXT hE
        go_wp2_with fail
        refine (EA.out _).mono ?_
        rintro e w8 ⟨mv, rfl, hmi, h8⟩
        have E8 := Lib.hid (E7.out.below h8)
        have MI8 := Lib.hid hmi
        have BB8 := Lib.hid (thenB BB7.out h8)
        have hz8 : w4.heap.size ≤ w8.heap.size := BB8.out.size
        clear h8 hmi c0 c1 c2 c3 c4 c5 c6 c7 c8 c9 p7
        have E8R := Lib.hid E8.out.row
        have ONE := Lib.hid MI8.out.one
        unfold ev evc
        go_wp2_with (first
          | (at_builtin; refine wpList_append_own _ rfl (.tmp 48) (.tmp 53) 26 rfl w4.heap.size 40 i0 _ 15 176 Tryz.underlying26 i1 i2 i3 i4 rfl (by decide) (.slice X ps.length capo) ps.length (enCells ps) rfl (E8R.out.alloc _) ⟨w8.heap.size, 0, none⟩ 1 1 (evc E mv).toList rfl rfl (new_cells _ _ _) (evc_one _ _ ONE.out) (by unfold maxLen; omega) (by omega) (by have := hz8; simp; omega) ?_; intro v9 w9 hown9 hgrow9 _))
        have A8 := (Below.refl w8.heap.size w8).alloc (Nat.le_refl _) (.cells (evc E mv) 40)
        have E9 := Lib.hid ((E8.out.below A8).push (MI8.out.below A8) hown9 hgrow9)
        have BB9 := (thenB BB8.out A8).grown hgrow9 (thenB BB8.out A8).size (fun q hq => (World.ownsRow.lt E8.out.row q hq).1)
        clear A8 hown9 hgrow9
        go_roundg (L.length - (i + 1))
        case measure => have := HG.out; omega
        case rel => exact ⟨i + 1, ps ++ [(E, mv)], by go_num, by have := HG.out; omega, Lib.hid (NX2.out mv), E9, BB9⟩
      · have hdn : ¬ (bs f).toList = [] := fun e => hf0 ((str_nil f).1 e)
        have hde : (bs f).toList.isEmpty = false := by rw [← Bool.not_eq_true, List.isEmpty_iff]; exact hdn
        have NX2 := Lib.hid (fun mv => NXT.out mv)
        rw [if_neg hf0] at NX2
        have E8 := E7
        have MI8 := Lib.hid (MapIn.nil w7 (e := hard s f ⟨m0, m1, m2, m3, m4, m5, m6, m7, m8, m9⟩) rfl)
        have BB8 := BB7
        have hz8 : w4.heap.size ≤ w7.heap.size := BB7.out.size
        have E8R := Lib.hid E8.out.row
        have ONE := Lib.hid MI8.out.one
        clear hf0 NXT EA
        go_wp2_with (first
          | (at_builtin; refine wpList_append_own _ rfl (.tmp 34) (.tmp 46) 26 rfl w4.heap.size 40 i0 _ 15 176 Tryz.underlying26 i1 i2 i3 i4 rfl (by decide) (.slice X ps.length capo) ps.length (enCells ps) rfl (E8R.out.alloc _) ⟨w7.heap.size, 0, none⟩ 1 1 (evc (hard s f ⟨m0, m1, m2, m3, m4, m5, m6, m7, m8, m9⟩) (.slice none 0 0)).toList rfl rfl (new_cells _ _ _) (evc_one _ _ ONE.out) (by unfold maxLen; omega) (by omega) (by have := hz8; simp; omega) ?_; intro v9 w9 hown9 hgrow9 _))
        have A8 := (Below.refl w7.heap.size w7).alloc (Nat.le_refl _) (.cells (evc (hard s f ⟨m0, m1, m2, m3, m4, m5, m6, m7, m8, m9⟩) (.slice none 0 0)) 40)
        have E9 := Lib.hid ((E8.out.below A8).push (MI8.out.below A8) hown9 hgrow9)
        have BB9 := (thenB BB8.out A8).grown hgrow9 (thenB BB8.out A8).size (fun q hq => (World.ownsRow.lt E8.out.row q hq).1)
        clear A8 hown9 hgrow9
        go_roundg (L.length - (i + 1))
        case measure => have := HG.out; omega
        case rel => exact ⟨i + 1, ps ++ [((hard s f ⟨m0, m1, m2, m3, m4, m5, m6, m7, m8, m9⟩), (.slice none 0 0))], by go_num, by have := HG.out; omega, Lib.hid (NX2.out (.slice none 0 0)), E9, BB9⟩
    · have hke : ¬ (i : Int) < L.length := by omega
      go_wp2_with fail
      go_ret
      refine ListPost.mk ps ?_ (HEN.out.mono (by have := B4.out.size; omega)) (thenB B4.out HW.out)
      rw [HPS.out, HLI.out, List.take_of_length_le (by rw [listGo_len]; omega)]

end Go.Proofs.YtipajekehbpghaaGreatDoor
