/-
  A region's operations that are skipped, all at once, in a region that is walked under a condition on the world.
-/
import Derived.Test.YtipajekehbpghaaGreatDoorZa
import Derived.OrdersHeld
import Derived.Test.YtipajekehbpghaaGreatDoorZc
import Derived.Deep.Slices
import Derived.Maps.AppendAt
import Derived.Test.YtipajekehbpghaaGreatDoorZg
import Derived.Test.YtipajekehbpghaaGreatDoorZb
import Derived.Test.YtipajekehbpghaaGreatDoorZf
import Derived.Deep.RegionHeld3
import Derived.BigRegion
import Derived.Deep.DeepCutAuto
import Derived.Test.YtipajekehbpghaaGreatDoorZj
import Derived.Test.YtipajekehbpghaaGreatDoorZi
set_option linter.unusedVariables false
set_option linter.unusedSimpArgs false

namespace Go.Proofs.YtipajekehbpghaaGreatDoor

/-- The same in a region that is walked under a condition on the world. -/
theorem wpAnyH_skips {P : Program} {md : Region.Mode} {ops : Array Oper} {Q : Exit → Act → World → Prop} {S : World → Prop} {w : World} (hs : Region.noSelect ops = true) (hQ : ∀ c a (d : Tmp) v w, Q (.panic c) (a.put (some d) v) w → Q (.panic c) a w) (hS : S w) :
    ∀ (is : List Nat) (kn : List (Nat × Option Bool)) (fuel : Nat) (listed : Array Bool) (a : Act), (∀ p ∈ kn, yielded ops a.tmps p.1 = p.2) → skipsOk md ops is kn listed = true →
      wpAnyH P md ops Q S fuel (is.foldl (fun l i => l.setIfInBounds i true) listed) ((is.map fun i => (ops[i]?).bind (·.dst)).foldl (fun a d => a.put d undef) a) w → wpAnyH P md ops Q S (fuel + is.length) listed a w
  | [], _, _, _, _, _, _, h => h
  | i :: r, kn, fuel, listed, a, hk, hok, h => by
    unfold skipsOk at hok
    simp only [Bool.and_eq_true] at hok
    obtain ⟨⟨⟨h1, h2⟩, h3⟩, h4⟩ := hok
    cases ho : ops[i]? with
    | none => rw [ho] at h1; cases h1
    | some o =>
      rw [ho] at h1
      simp only [Bool.and_eq_true] at h1
      obtain ⟨h5, h6⟩ := h1
      have hd : (ops[i]?).bind (·.dst) = o.dst := by rw [ho]; rfl
      rw [List.map_cons, List.foldl_cons, List.foldl_cons, hd] at h
      have hw : Region.wanted o (yielded ops a.tmps) = false := by
        unfold Region.wanted
        cases hg : o.guard with
        | none => rw [hg] at h5; cases h5
        | some gw =>
          obtain ⟨g, want⟩ := gw
          rw [hg] at h5
          simp only at h5 ⊢
          obtain ⟨p, hp, hpp⟩ := List.any_eq_true.1 h5
          simp only [Bool.and_eq_true, beq_iff_eq, bne_iff_ne] at hpp
          rw [← hpp.1, hk p hp, beq_eq_false_iff_ne]
          exact hpp.2
      refine wpAnyH_take (fuel := fuel + r.length) (i := i) (oi := o) (v := undef) ho hs h2 h3 (fun c a w hh => by cases hd2 : o.dst with | none => rw [hd2] at hh; exact hh | some d => rw [hd2] at hh; exact hQ c a d _ w hh) (Or.inr ⟨hw, rfl⟩) hS ?_
      refine wpAnyH_skips hs hQ hS r ((i, none) :: kn) fuel _ _ ?_ h4 h
      intro p hp
      rcases List.mem_cons.1 hp with rfl | hp
      · exact yielded_put_undef ho
      · rw [yielded_put_ne, hk p hp]
        have := List.all_eq_true.1 h6 p hp
        simp only [Bool.or_eq_true, bne_iff_ne] at this
        exact this
theorem wpAnyH_skips_of {P : Program} {md : Region.Mode} {ops : Array Oper} {Q : Exit → Act → World → Prop} {S : World → Prop} {w : World} {fuel fuel' : Nat} {listed listed' : Array Bool} {a : Act} (is : List Nat) (kn : List (Nat × Option Bool)) {ds : List (Option Tmp)}
    (hs : Region.noSelect ops = true) (hok : skipsOk md ops is kn listed = true) (hl : is.foldl (fun l i => l.setIfInBounds i true) listed = listed') (hds : (is.map fun i => (ops[i]?).bind (·.dst)) = ds) (hf : fuel' = fuel + is.length)
    (hQ : ∀ c a (d : Tmp) v w, Q (.panic c) (a.put (some d) v) w → Q (.panic c) a w) (hS : S w) (hk : ∀ p ∈ kn, yielded ops a.tmps p.1 = p.2)
    (h : wpAnyH P md ops Q S fuel listed' (ds.foldl (fun a d => a.put d undef) a) w) : wpAnyH P md ops Q S fuel' listed a w := by
  subst hl hds hf
  exact wpAnyH_skips hs hQ hS is kn fuel listed a hk hok h

/-- One operation is taken first; where it writes and what is listed behind it are told. -/
theorem wpAnyH_takeD {P : Program} {md : Region.Mode} {ops : Array Oper} {Q : Exit → Act → World → Prop} {S : World → Prop} {i : Nat} {d : Tmp} {oi : Oper} {v : Value} {fuel : Nat} {listed listed' : Array Bool} {a : Act} {w : World} (hi : ops[i]? = some oi) (hd : oi.dst = some d)
    (hl : listed.setIfInBounds i true = listed') (hs : Region.noSelect ops = true) (hf : Region.free md ops listed i = true) (hr : (Region.ready md ops listed).contains i = true)
    (hQ : ∀ c a w, Q (.panic c) (a.put (some d) v) w → Q (.panic c) a w) (hy : YieldsIf P ops S oi v a) (hS : S w) (h : wpAnyH P md ops Q S fuel listed' (a.put (some d) v) w) : wpAnyH P md ops Q S (fuel + 1) listed a w := by
  subst hl
  refine wpAnyH_take hi hs hf hr ?_ hy hS ?_
  · rw [hd]; exact hQ
  · rw [hd]; exact h

end Go.Proofs.YtipajekehbpghaaGreatDoor

namespace Go.Proofs.YtipajekehbpghaaGreatDoor
open Go.RowKit

/-- The cells of numbers. -/
def inCells (l : List Int) : List Value := l.map fun x => .int .i64 x
theorem inCells_len (l : List Int) : (inCells l).length = l.length := by simp [inCells]
theorem inCells_app (l m : List Int) : inCells (l ++ m) = inCells l ++ inCells m := by simp [inCells]
theorem inCells_get (l : List Int) (i : Nat) (hi : i < l.length) : (inCells l)[i]? = some (.int .i64 l[i]) := by simp [inCells, hi]
/-- A slice of numbers that the call owns. -/
def HasI (w : World) (B : Nat) (v : Value) (l : List Int) : Prop := w.ownsRow B 3 1 v l.length (inCells l)
theorem HasI.nil (w : World) (B : Nat) : HasI w B (.slice none 0 0) [] := World.ownsRow_nil _ _ _ _
theorem HasI.later {w w' : World} {B : Nat} {v : Value} {l : List Int} (h : HasI w B v l) (hb : Below w.heap.size w w') : HasI w' B v l :=
  World.ownsRow.kept h (only_of_below hb none) (by cases v.ownBlock <;> simp)
theorem HasI.mono {w : World} {B B' : Nat} {v : Value} {l : List Int} (h : HasI w B v l) (hB : B' ≤ B) : HasI w B' v l := by
  refine ⟨h.1, ?_⟩
  rcases h.2 with hn | ⟨g, cap, cur, e, hb, rest⟩
  · exact .inl hn
  · exact .inr ⟨g, cap, cur, e, by omega, rest⟩
theorem HasI.ways {w : World} {B : Nat} {v : Value} {l : List Int} (h : HasI w B v l) : (v = .slice none 0 0 ∧ l = []) ∨ ∃ g cap, v = .slice (some ⟨g, 0, none⟩) l.length cap ∧ B ≤ g ∧ g < w.heap.size ∧ l.length ≤ cap ∧
    ∀ (j : Nat) (hj : j < l.length), w.cell? ⟨g, j, none⟩ = some (.int .i64 l[j]) := by
  obtain ⟨h1, hw⟩ := h
  rcases hw with ⟨rfl, h0⟩ | ⟨g, cap, cur, rfl, hB, hg, hc, hm, hcs, ht⟩
  · exact .inl ⟨rfl, List.length_eq_zero_iff.1 h0⟩
  · right
    refine ⟨g, cap, rfl, hB, (Array.getElem?_eq_some_iff.1 hg).1, hc, fun j hj => ?_⟩
    have c1 := inCells_get l j hj
    rw [← ht, List.getElem?_take, if_pos (by omega), Array.getElem?_toList] at c1
    rw [Blk.cell hg, c1]
theorem HasI.form {w : World} {B : Nat} {v : Value} {l : List Int} (h : HasI w B v l) : ∃ X cap, v = .slice X l.length cap ∧ l.length ≤ cap := by
  rcases h.ways with ⟨rfl, rfl⟩ | ⟨g, cap, rfl, _, _, hc, _⟩
  · exact ⟨none, 0, rfl, Nat.le_refl _⟩
  · exact ⟨_, cap, rfl, hc⟩
theorem HasI.pushed {w : World} {B : Nat} {v : Value} {l : List Int} {a : Int} (h : w.ownsRow B 3 1 v (l.length + 1) (inCells l ++ [.int .i64 a])) : HasI w B v (l ++ [a]) := by
  unfold HasI
  rw [inCells_app, List.length_append]
  exact h
/-- A literal of one number. -/
theorem HasI.one (w : World) (B : Nat) (hB : B ≤ w.heap.size) (a : Int) : HasI (w.alloc (.cells #[.int .i64 a] 3)) B (.slice (some ⟨w.heap.size, 0, none⟩) 1 1) [a] := by
  have := World.ownsRow_lit (e := 3) (size := 1) (base := B) w #[.int .i64 a] 1 hB (by decide) rfl
  exact this
theorem infoIn : (Tryz.prog.info? 3).map (fun i => (i.zero, i.size, i.bytes)) = some (some (.int .i64 0), 1, 8) := by kernel_rfl

end Go.Proofs.YtipajekehbpghaaGreatDoor

namespace Go.Proofs.YtipajekehbpghaaGreatDoor
open Go.RowKit Go.Maps Tre Pk

/-- The closure's variable: a cell whose slice of numbers lies in later memory. -/
structure Acc (w0 : World) (c : Nat) (w : World) (l : List Int) : Prop where
  bel : Below w0.heap.size w0 w
  lo : w0.heap.size ≤ c
  row : ∃ v, Blk w c 100 #[v] ∧ HasI w (c + 1) v l
theorem Acc.below {w0 w w' : World} {c : Nat} {l : List Int} (h : Acc w0 c w l) (hb : Below w.heap.size w w') : Acc w0 c w' l := by
  obtain ⟨v, k, r⟩ := h.row
  exact ⟨thenB h.bel hb, h.lo, v, k.below hb k.lt, r.later hb⟩

theorem blk_grown {w w' : World} {g : Nat} {t : TypeId} {cs : Array Value} {row : Option Nat} (h : Blk w g t cs) (hg : w.grownBy w' row) (hne : row ≠ some g) : Blk w' g t cs := (hg.block g h.lt hne.symm).trans h
theorem below_set {B g : Nat} {a w : World} (h : Below B a w) (hg : B ≤ g) (u : Value) : Below B a (w.setCell ⟨g, 0, none⟩ u) := h.setCell (p := ⟨g, 0, none⟩) hg u
theorem hasI_set {w : World} {B g : Nat} {v : Value} {l : List Int} (h : HasI w B v l) (hg : g < B) (u : Value) : HasI (w.setCell ⟨g, 0, none⟩ u) B v l :=
  World.ownsRow.kept h (only_setCell (p := ⟨g, 0, none⟩) (only_refl w (some g)) (.inl rfl) u) (.inr fun e => by have := World.ownsRow.lt h g e; omega)

set_option maxRecDepth 100000 in
set_option maxHeartbeats 4000000 in
theorem add_any (b : Bool) (k : Int) {w0 w : World} {c : Nat} {l : List Int} (h : Acc w0 c w l) (hl : l.length ≤ 100) :
    Calls Tryz.prog 146 #[.bool b, .int .i64 k, .pointer (some ⟨c, 0, none⟩)] w fun e w' => e = .returned (.tuple #[]) ∧ Acc w0 c w' (l ++ tell b k) := by
  obtain ⟨hb, hc, v, hk, hr⟩ := h
  obtain ⟨i0, i1, i2, i3, i4⟩ := info_parts infoIn
  cases b with
  | false =>
    have e : l ++ tell false k = l := by simp [tell]
    rw [e]
    have H := Lib.hid (Acc.mk hb hc ⟨v, hk, hr⟩)
    clear hb hc hk hr e
    go_enter Tryz.func146, Tryz.ntmps146
    go_wp2_with fail
    go_end0
    exact ⟨rfl, H.out⟩
  | true =>
    have e : l ++ tell true k = l ++ [k] := rfl
    rw [e]
    obtain ⟨X, cap, rfl, hcap⟩ := hr.form
    have c0 : w.cell? ⟨c, 0, none⟩ = some (.slice X l.length cap) := hk.cell 0
    have f0 := hk.frozen 0
    have hlt := hk.lt
    have HR := Lib.hid hr
    have HB := Lib.hid hb
    have HK := Lib.hid hk
    have hws : w0.heap.size ≤ w.heap.size := hb.size
    clear hb hk hr e
    go_enter Tryz.func146, Tryz.ntmps146
    have BND := Lib.hid (fun q (hq : Value.ownBlock (.slice X l.length cap) = some q) => (World.ownsRow.lt HR.out q hq).1)
    go_wp2_with (first
      | (at_builtin; refine wpList_append_own _ rfl _ _ 100 rfl (c + 1) 3 i0 _ 1 8 Tryz.underlying100 i1 i2 i3 i4 rfl (by decide) (.slice X l.length cap) l.length (inCells l) rfl (World.ownsRow.alloc HR.out _) ⟨w.heap.size, 0, none⟩ 1 1 [.int .i64 k] rfl rfl (cell_one_new _ _ _) (by intro u hu; simp at hu; rcases hu with rfl; rfl) (by unfold maxLen; omega) (by omega) (by simp; omega) ?_; intro v9 w9 hown9 hgrow9 _; have P9 := Lib.hid (HasI.pushed hown9); have K9 := Lib.hid (blk_grown (HK.out.alloc _) hgrow9 (fun e => by have := BND.out _ e; omega)); have B9 := Lib.hid ((HB.out.alloc hws _).grown hgrow9 (HB.out.alloc hws _).size (fun q hq => by have := BND.out q hq; omega)); clear hown9 hgrow9 BND HR HB HK c0 f0 hlt; obtain ⟨X9, cap9, rfl, hc9⟩ := P9.out.form; have c9 : w9.cell? ⟨c, 0, none⟩ = some (.slice X l.length cap) := K9.out.cell 0; have f9 := K9.out.frozen 0; have hlt9 := K9.out.lt))
    go_end0
    have fin := hasI_set P9.out (Nat.lt_succ_self c) (.slice X9 (l ++ [k]).length cap9)
    rw [show (l ++ [k]).length = l.length + 1 by simp] at fin
    exact ⟨rfl, below_set B9.out hc _, hc, _, K9.out.set_ 0 _, fin⟩

end Go.Proofs.YtipajekehbpghaaGreatDoor

namespace Go.Proofs.YtipajekehbpghaaGreatDoor
open Go.RowKit Go.Maps Tre Pk

theorem time_neq (w : World) (a b c d : Int) : (binOp .neq 31 (.agg #[.int .i64 a, .int .i64 b]) (.agg #[.int .i64 c, .int .i64 d])).run Tryz.prog w = .ok (.bool (!(a == c && b == d))) w := by
  have h1 := Tryz.underlying3
  have h5 : Tryz.prog.stoodInHeld 31 = false := by kernel_rfl
  rw [run_neq_struct, run_equalIn_agg w 9999 31 _ _ (by kernel_rfl) (by kernel_rfl)]
  simp [go_sem, h1, h5]
  by_cases e0 : a = c
  case neg => rw [if_neg e0]; simp [e0]
  rw [if_pos e0]
  simp only [e0, beq_self_eq_true, Bool.true_and]
  by_cases e1 : b = d <;> simp [e1]
theorem app_tell (l : List Int) (b : Bool) (k : Int) : (l ++ tell b k).length ≤ l.length + 1 := by
  unfold tell; split <;> simp
theorem Acc.gen {w0 w' : World} {c m : Nat} {l : List Int} {b : Bool} {k : Int} (h : Acc w0 c w' (l ++ tell b k)) (hl : l.length ≤ m) : ∃ L, Hid (L = l ++ tell b k) ∧ L.length ≤ m + 1 ∧ Hid (Acc w0 c w' L) := by
  have := app_tell l b k
  exact ⟨_, Lib.hid rfl, by omega, Lib.hid h⟩
theorem Acc.drew {w0 w : World} {c : Nat} {l : List Int} (h : Acc w0 c w l) : Acc w0 c w.drew l := by
  obtain ⟨v, k, r⟩ := h.row
  exact ⟨h.bel.drew, h.lo, v, k, r.drew⟩
/-- What compared hands out. -/
def IntPost (w : World) (l : List Int) (r : Ending) (w' : World) : Prop := ∃ v, r = .returned v ∧ HasI w' w.heap.size v l ∧ Below w.heap.size w w'

set_option maxRecDepth 100000 in
set_option maxHeartbeats 8000000 in
theorem differences_lit (n : Nd) (e : Ent) (mv : Value) (w : World) (hd : n.data.length ≤ 1000000000000) (hBY : ∀ w', Below w.heap.size w w' → Calls Tryz.prog 147 #[.agg #[.string (bs e.name), .int .u8 e.kind, .int .i64 e.mode, .int .i64 e.uid, .int .i64 e.gid, .int .i64 e.size, .int .i64 e.sec, .int .i64 e.nano, .string (bs e.link), .string (bs e.user), .string (bs e.group), .int .i64 e.major, .int .i64 e.minor, .string (bs e.data), mv]] w' fun r w'' => r = .returned (.string (bs (bytesE e))) ∧ Below w'.heap.size w' w'') :
    Calls Tryz.prog 122 #[.agg #[.int .u8 n.kind, .int .i64 n.mode, .int .i64 n.uid, .int .i64 n.gid, .int .i64 n.sec, .int .i64 n.nano, .string (bs n.data), .string (bs n.link), .int .i64 n.major, .int .i64 n.minor], .agg #[.string (bs e.name), .int .u8 e.kind, .int .i64 e.mode, .int .i64 e.uid, .int .i64 e.gid, .int .i64 e.size, .int .i64 e.sec, .int .i64 e.nano, .string (bs e.link), .string (bs e.user), .string (bs e.group), .int .i64 e.major, .int .i64 e.minor, .string (bs e.data), mv]] w (IntPost w (diffs n e)) := by
  obtain ⟨W, hW⟩ : ∃ W, W = (w.alloc (.cells #[.int .u8 n.kind, .int .i64 n.mode, .int .i64 n.uid, .int .i64 n.gid, .int .i64 n.sec, .int .i64 n.nano, .string (bs n.data), .string (bs n.link), .int .i64 n.major, .int .i64 n.minor] 33)).alloc (.cells #[.string (bs e.name), .int .u8 e.kind, .int .i64 e.mode, .int .i64 e.uid, .int .i64 e.gid, .int .i64 e.size, .int .i64 e.sec, .int .i64 e.nano, .string (bs e.link), .string (bs e.user), .string (bs e.group), .int .i64 e.major, .int .i64 e.minor, .string (bs e.data), mv] 40) := ⟨_, rfl⟩
  have HB0 := Lib.hid (show Below w.heap.size w W by rw [hW]; exact ((Below.refl _ _).alloc (Nat.le_refl _) _).alloc (by simp) _)
  have hWs : W.heap.size = w.heap.size + 2 := by rw [hW]; simp
  have BN := Lib.hid (show Blk W w.heap.size 33 #[.int .u8 n.kind, .int .i64 n.mode, .int .i64 n.uid, .int .i64 n.gid, .int .i64 n.sec, .int .i64 n.nano, .string (bs n.data), .string (bs n.link), .int .i64 n.major, .int .i64 n.minor] by rw [hW]; exact (Blk.new w 33 _).alloc _)
  have BE := Lib.hid (show Blk W (w.heap.size + 1) 40 #[.string (bs e.name), .int .u8 e.kind, .int .i64 e.mode, .int .i64 e.uid, .int .i64 e.gid, .int .i64 e.size, .int .i64 e.sec, .int .i64 e.nano, .string (bs e.link), .string (bs e.user), .string (bs e.group), .int .i64 e.major, .int .i64 e.minor, .string (bs e.data), mv] by
    have := Blk.new (w.alloc (.cells #[.int .u8 n.kind, .int .i64 n.mode, .int .i64 n.uid, .int .i64 n.gid, .int .i64 n.sec, .int .i64 n.nano, .string (bs n.data), .string (bs n.link), .int .i64 n.major, .int .i64 n.minor] 33)) 40 #[.string (bs e.name), .int .u8 e.kind, .int .i64 e.mode, .int .i64 e.uid, .int .i64 e.gid, .int .i64 e.size, .int .i64 e.sec, .int .i64 e.nano, .string (bs e.link), .string (bs e.user), .string (bs e.group), .int .i64 e.major, .int .i64 e.minor, .string (bs e.data), mv]
    rw [show (w.alloc (.cells #[.int .u8 n.kind, .int .i64 n.mode, .int .i64 n.uid, .int .i64 n.gid, .int .i64 n.sec, .int .i64 n.nano, .string (bs n.data), .string (bs n.link), .int .i64 n.major, .int .i64 n.minor] 33)).heap.size = w.heap.size + 1 by simp] at this
    rw [hW]; exact this)
  have lN : w.heap.size < W.heap.size := by omega
  have lE : w.heap.size + 1 < W.heap.size := by omega
  obtain ⟨W2, hW2⟩ : ∃ W2, W2 = W.alloc (.cells #[.slice none 0 0] 100) := ⟨_, rfl⟩
  have A00 := Lib.hid (show Acc W W.heap.size W2 [] from ⟨by rw [hW2]; exact (Below.refl _ _).alloc (Nat.le_refl _) _, Nat.le_refl _, .slice none 0 0, by rw [hW2]; exact Blk.new W 100 _, HasI.nil _ _⟩)
  have HW := Lib.hid (show W2 = ((w.alloc (.cells #[.int .u8 n.kind, .int .i64 n.mode, .int .i64 n.uid, .int .i64 n.gid, .int .i64 n.sec, .int .i64 n.nano, .string (bs n.data), .string (bs n.link), .int .i64 n.major, .int .i64 n.minor] 33)).alloc (.cells #[.string (bs e.name), .int .u8 e.kind, .int .i64 e.mode, .int .i64 e.uid, .int .i64 e.gid, .int .i64 e.size, .int .i64 e.sec, .int .i64 e.nano, .string (bs e.link), .string (bs e.user), .string (bs e.group), .int .i64 e.major, .int .i64 e.minor, .string (bs e.data), mv] 40)).alloc (.cells #[.slice none 0 0] 100) by rw [hW2, hW])
  have BYW := Lib.hid (fun w' (hb : Below W.heap.size W w') => hBY w' (thenB HB0.out hb))
  have ADD := Lib.hid (fun (b : Bool) (k : Int) w' l (h : Acc W (w.heap.size + 2) w' l) (hl : l.length ≤ 100) => add_any b k h hl)
  have A0' := A00.out
  rw [hWs] at A0'
  have A0 := Lib.hid A0'
  have lL0 : ([] : List Int).length ≤ 0 := Nat.le_refl _
  clear hW hW2 hBY A0'
  go_enter Tryz.func122, Tryz.ntmps122
  go_wp2_with fail
  rw [← HW.out]
  have n1 : W2.cell? ⟨w.heap.size, 1, none⟩ = some (.int .i64 n.mode) := (BN.out.below A0.out.bel lN).cell 1; have c2 : W2.cell? ⟨w.heap.size + 1, 2, none⟩ = some (.int .i64 e.mode) := (BE.out.below A0.out.bel lE).cell 2
  go_wp2_with fail
  refine (ADD.out _ _ _ _ A0.out (by omega)).mono ?_; rintro r w1 ⟨rfl, h⟩; obtain ⟨L1, hL1, lL1, A1⟩ := h.gen lL0; clear h
  clear n1 c2
  have n2 : w1.cell? ⟨w.heap.size, 2, none⟩ = some (.int .i64 n.uid) := (BN.out.below A1.out.bel lN).cell 2; have c3 : w1.cell? ⟨w.heap.size + 1, 3, none⟩ = some (.int .i64 e.uid) := (BE.out.below A1.out.bel lE).cell 3
  go_wp2_with fail
  refine (ADD.out _ _ _ _ A1.out (by omega)).mono ?_; rintro r w2 ⟨rfl, h⟩; obtain ⟨L2, hL2, lL2, A2⟩ := h.gen lL1; clear h
  clear n2 c3
  have n3 : w2.cell? ⟨w.heap.size, 3, none⟩ = some (.int .i64 n.gid) := (BN.out.below A2.out.bel lN).cell 3; have c4 : w2.cell? ⟨w.heap.size + 1, 4, none⟩ = some (.int .i64 e.gid) := (BE.out.below A2.out.bel lE).cell 4
  go_wp2_with fail
  refine (ADD.out _ _ _ _ A2.out (by omega)).mono ?_; rintro r w3 ⟨rfl, h⟩; obtain ⟨L3, hL3, lL3, A3⟩ := h.gen lL2; clear h
  clear n3 c4
  have hTN := fun w => time_neq w n.sec n.nano e.sec e.nano
  have n4 : w3.cell? ⟨w.heap.size, 4, none⟩ = some (.int .i64 n.sec) := (BN.out.below A3.out.bel lN).cell 4; have n5 : w3.cell? ⟨w.heap.size, 5, none⟩ = some (.int .i64 n.nano) := (BN.out.below A3.out.bel lN).cell 5; have c6 : w3.cell? ⟨w.heap.size + 1, 6, none⟩ = some (.int .i64 e.sec) := (BE.out.below A3.out.bel lE).cell 6; have c7 : w3.cell? ⟨w.heap.size + 1, 7, none⟩ = some (.int .i64 e.nano) := (BE.out.below A3.out.bel lE).cell 7
  go_wp2_with fail
  clear hTN
  refine (ADD.out _ _ _ _ A3.out (by omega)).mono ?_; rintro r w4 ⟨rfl, h⟩; obtain ⟨L4, hL4, lL4, A4⟩ := h.gen lL3; clear h
  clear n4 n5 c6 c7
  have hsz : ((bs n.data).size : Int) = n.data.length := by rw [bs_size]
  have n6 : w4.cell? ⟨w.heap.size, 6, none⟩ = some (.string (bs n.data)) := (BN.out.below A4.out.bel lN).cell 6; have c5 : w4.cell? ⟨w.heap.size + 1, 5, none⟩ = some (.int .i64 e.size) := (BE.out.below A4.out.bel lE).cell 5
  go_wp2_with fail
  refine (ADD.out _ _ _ _ A4.out (by omega)).mono ?_; rintro r w5 ⟨rfl, h⟩; obtain ⟨L5, hL5, lL5, A5⟩ := h.gen lL4; clear h
  clear n6 c5
  have bw := A5.out.bel
  have KC := Lib.hid (fun w' (h : Below W.heap.size W w') => (show w'.cell? ⟨w.heap.size, 6, none⟩ = some (.string (bs n.data)) ∧ w'.cell? ⟨w.heap.size + 1, 0, none⟩ = some (.string (bs e.name)) ∧ w'.cell? ⟨w.heap.size + 1, 1, none⟩ = some (.int .u8 e.kind) ∧ w'.cell? ⟨w.heap.size + 1, 2, none⟩ = some (.int .i64 e.mode) ∧ w'.cell? ⟨w.heap.size + 1, 3, none⟩ = some (.int .i64 e.uid) ∧ w'.cell? ⟨w.heap.size + 1, 4, none⟩ = some (.int .i64 e.gid) ∧ w'.cell? ⟨w.heap.size + 1, 5, none⟩ = some (.int .i64 e.size) ∧ w'.cell? ⟨w.heap.size + 1, 6, none⟩ = some (.int .i64 e.sec) ∧ w'.cell? ⟨w.heap.size + 1, 7, none⟩ = some (.int .i64 e.nano) ∧ w'.cell? ⟨w.heap.size + 1, 8, none⟩ = some (.string (bs e.link)) ∧ w'.cell? ⟨w.heap.size + 1, 9, none⟩ = some (.string (bs e.user)) ∧ w'.cell? ⟨w.heap.size + 1, 10, none⟩ = some (.string (bs e.group)) ∧ w'.cell? ⟨w.heap.size + 1, 11, none⟩ = some (.int .i64 e.major) ∧ w'.cell? ⟨w.heap.size + 1, 12, none⟩ = some (.int .i64 e.minor) ∧ w'.cell? ⟨w.heap.size + 1, 13, none⟩ = some (.string (bs e.data)) ∧ w'.cell? ⟨w.heap.size + 1, 14, none⟩ = some mv ∧ Below W.heap.size W w' from ⟨(BN.out.below h lN).cell 6, (BE.out.below h lE).cell 0, (BE.out.below h lE).cell 1, (BE.out.below h lE).cell 2, (BE.out.below h lE).cell 3, (BE.out.below h lE).cell 4, (BE.out.below h lE).cell 5, (BE.out.below h lE).cell 6, (BE.out.below h lE).cell 7, (BE.out.below h lE).cell 8, (BE.out.below h lE).cell 9, (BE.out.below h lE).cell 10, (BE.out.below h lE).cell 11, (BE.out.below h lE).cell 12, (BE.out.below h lE).cell 13, (BE.out.below h lE).cell 14, h⟩))
  have n6 : w5.cell? ⟨w.heap.size, 6, none⟩ = some (.string (bs n.data)) := (BN.out.below A5.out.bel lN).cell 6; have c5 : w5.cell? ⟨w.heap.size + 1, 5, none⟩ = some (.int .i64 e.size) := (BE.out.below A5.out.bel lE).cell 5; have c0 : w5.cell? ⟨w.heap.size + 1, 0, none⟩ = some (.string (bs e.name)) := (BE.out.below A5.out.bel lE).cell 0; have c1 : w5.cell? ⟨w.heap.size + 1, 1, none⟩ = some (.int .u8 e.kind) := (BE.out.below A5.out.bel lE).cell 1; have c2 : w5.cell? ⟨w.heap.size + 1, 2, none⟩ = some (.int .i64 e.mode) := (BE.out.below A5.out.bel lE).cell 2; have c3 : w5.cell? ⟨w.heap.size + 1, 3, none⟩ = some (.int .i64 e.uid) := (BE.out.below A5.out.bel lE).cell 3; have c4 : w5.cell? ⟨w.heap.size + 1, 4, none⟩ = some (.int .i64 e.gid) := (BE.out.below A5.out.bel lE).cell 4; have c6 : w5.cell? ⟨w.heap.size + 1, 6, none⟩ = some (.int .i64 e.sec) := (BE.out.below A5.out.bel lE).cell 6; have c7 : w5.cell? ⟨w.heap.size + 1, 7, none⟩ = some (.int .i64 e.nano) := (BE.out.below A5.out.bel lE).cell 7; have c8 : w5.cell? ⟨w.heap.size + 1, 8, none⟩ = some (.string (bs e.link)) := (BE.out.below A5.out.bel lE).cell 8; have c9 : w5.cell? ⟨w.heap.size + 1, 9, none⟩ = some (.string (bs e.user)) := (BE.out.below A5.out.bel lE).cell 9; have c10 : w5.cell? ⟨w.heap.size + 1, 10, none⟩ = some (.string (bs e.group)) := (BE.out.below A5.out.bel lE).cell 10; have c11 : w5.cell? ⟨w.heap.size + 1, 11, none⟩ = some (.int .i64 e.major) := (BE.out.below A5.out.bel lE).cell 11; have c12 : w5.cell? ⟨w.heap.size + 1, 12, none⟩ = some (.int .i64 e.minor) := (BE.out.below A5.out.bel lE).cell 12; have c13 : w5.cell? ⟨w.heap.size + 1, 13, none⟩ = some (.string (bs e.data)) := (BE.out.below A5.out.bel lE).cell 13; have c14 : w5.cell? ⟨w.heap.size + 1, 14, none⟩ = some mv := (BE.out.below A5.out.bel lE).cell 14
  go_wp2_with fail
  go_cut [] (fun wx => ∃ w6 L6, w6 = wx ∧ Hid (L6 = L5 ++ tell ((n.data.length : Int) == e.size && !(n.data == bytesE e)) 8) ∧ L6.length ≤ 5 + 1 ∧ Hid (Acc W (w.heap.size + 2) w6 L6))
  case first =>
    cases hs : ((n.data.length : Int) == e.size) with
    | true =>
      cases hq : (n.data == bytesE e) with
      | true =>
        have hq2 : ((bs n.data).toList == (bs (bytesE e)).toList) = true := by rw [Lib.toList_data, Lib.toList_data]; exact hq
        have hq3 : ((bs n.data).toList != (bs (bytesE e)).toList) = false := by unfold bne; rw [hq2]; rfl
        go_region_held3 (fun w' => w'.cell? ⟨w.heap.size, 6, none⟩ = some (.string (bs n.data)) ∧ w'.cell? ⟨w.heap.size + 1, 0, none⟩ = some (.string (bs e.name)) ∧ w'.cell? ⟨w.heap.size + 1, 1, none⟩ = some (.int .u8 e.kind) ∧ w'.cell? ⟨w.heap.size + 1, 2, none⟩ = some (.int .i64 e.mode) ∧ w'.cell? ⟨w.heap.size + 1, 3, none⟩ = some (.int .i64 e.uid) ∧ w'.cell? ⟨w.heap.size + 1, 4, none⟩ = some (.int .i64 e.gid) ∧ w'.cell? ⟨w.heap.size + 1, 5, none⟩ = some (.int .i64 e.size) ∧ w'.cell? ⟨w.heap.size + 1, 6, none⟩ = some (.int .i64 e.sec) ∧ w'.cell? ⟨w.heap.size + 1, 7, none⟩ = some (.int .i64 e.nano) ∧ w'.cell? ⟨w.heap.size + 1, 8, none⟩ = some (.string (bs e.link)) ∧ w'.cell? ⟨w.heap.size + 1, 9, none⟩ = some (.string (bs e.user)) ∧ w'.cell? ⟨w.heap.size + 1, 10, none⟩ = some (.string (bs e.group)) ∧ w'.cell? ⟨w.heap.size + 1, 11, none⟩ = some (.int .i64 e.major) ∧ w'.cell? ⟨w.heap.size + 1, 12, none⟩ = some (.int .i64 e.minor) ∧ w'.cell? ⟨w.heap.size + 1, 13, none⟩ = some (.string (bs e.data)) ∧ w'.cell? ⟨w.heap.size + 1, 14, none⟩ = some mv ∧ Below W.heap.size W w') (first | (go_split_ands; refine KC.out _ ?_; first | with_reducible assumption | with_reducible exact Below.drew bw)) (first | (go_at_call 147; go_split_ands; refine (BYW.out _ (by with_reducible assumption)).mono ?_; rintro r wt ⟨rfl, hw⟩; have TB : Below W.heap.size W wt := (by with_reducible exact thenB (by assumption) hw); have TA := Lib.hid (Acc.below (by first | with_reducible exact Acc.drew A5.out | with_reducible exact A5.out) hw)) | (go_at_call 146; refine (ADD.out _ _ _ _ (by first | with_reducible exact TA.out | with_reducible exact Acc.drew A5.out | with_reducible exact A5.out) (by omega)).mono ?_; rintro r w6 ⟨rfl, h6⟩; obtain ⟨L6, hL6, lL6, A6⟩ := h6.gen lL5; clear h6; have T6 : Below W.heap.size W w6 := A6.out.bel) | fail)
        all_goals go_wp2_with fail
        all_goals go_meet
        all_goals exact ⟨_, L6, rfl, Lib.hid (by rw [hL6.out]; simp [hs, hq]), lL6, A6⟩
      | false =>
        have hq2 : ((bs n.data).toList == (bs (bytesE e)).toList) = false := by rw [Lib.toList_data, Lib.toList_data]; exact hq
        have hq3 : ((bs n.data).toList != (bs (bytesE e)).toList) = true := by unfold bne; rw [hq2]; rfl
        go_region_held3 (fun w' => w'.cell? ⟨w.heap.size, 6, none⟩ = some (.string (bs n.data)) ∧ w'.cell? ⟨w.heap.size + 1, 0, none⟩ = some (.string (bs e.name)) ∧ w'.cell? ⟨w.heap.size + 1, 1, none⟩ = some (.int .u8 e.kind) ∧ w'.cell? ⟨w.heap.size + 1, 2, none⟩ = some (.int .i64 e.mode) ∧ w'.cell? ⟨w.heap.size + 1, 3, none⟩ = some (.int .i64 e.uid) ∧ w'.cell? ⟨w.heap.size + 1, 4, none⟩ = some (.int .i64 e.gid) ∧ w'.cell? ⟨w.heap.size + 1, 5, none⟩ = some (.int .i64 e.size) ∧ w'.cell? ⟨w.heap.size + 1, 6, none⟩ = some (.int .i64 e.sec) ∧ w'.cell? ⟨w.heap.size + 1, 7, none⟩ = some (.int .i64 e.nano) ∧ w'.cell? ⟨w.heap.size + 1, 8, none⟩ = some (.string (bs e.link)) ∧ w'.cell? ⟨w.heap.size + 1, 9, none⟩ = some (.string (bs e.user)) ∧ w'.cell? ⟨w.heap.size + 1, 10, none⟩ = some (.string (bs e.group)) ∧ w'.cell? ⟨w.heap.size + 1, 11, none⟩ = some (.int .i64 e.major) ∧ w'.cell? ⟨w.heap.size + 1, 12, none⟩ = some (.int .i64 e.minor) ∧ w'.cell? ⟨w.heap.size + 1, 13, none⟩ = some (.string (bs e.data)) ∧ w'.cell? ⟨w.heap.size + 1, 14, none⟩ = some mv ∧ Below W.heap.size W w') (first | (go_split_ands; refine KC.out _ ?_; first | with_reducible assumption | with_reducible exact Below.drew bw)) (first | (go_at_call 147; go_split_ands; refine (BYW.out _ (by with_reducible assumption)).mono ?_; rintro r wt ⟨rfl, hw⟩; have TB : Below W.heap.size W wt := (by with_reducible exact thenB (by assumption) hw); have TA := Lib.hid (Acc.below (by first | with_reducible exact Acc.drew A5.out | with_reducible exact A5.out) hw)) | (go_at_call 146; refine (ADD.out _ _ _ _ (by first | with_reducible exact TA.out | with_reducible exact Acc.drew A5.out | with_reducible exact A5.out) (by omega)).mono ?_; rintro r w6 ⟨rfl, h6⟩; obtain ⟨L6, hL6, lL6, A6⟩ := h6.gen lL5; clear h6; have T6 : Below W.heap.size W w6 := A6.out.bel) | fail)
        all_goals go_wp2_with fail
        all_goals go_meet
        all_goals exact ⟨_, L6, rfl, Lib.hid (by rw [hL6.out]; simp [hs, hq]), lL6, A6⟩
    | false =>
      have kc := KC.out w5 bw
      obtain ⟨x0, x1, x2, x3, x4, x5, x6, x7, x8, x9, x10, x11, x12, x13, x14, x15, _⟩ := kc
      refine wp_region_held_drew (S := fun w' => w'.cell? ⟨w.heap.size, 6, none⟩ = some (.string (bs n.data)) ∧ w'.cell? ⟨w.heap.size + 1, 0, none⟩ = some (.string (bs e.name)) ∧ w'.cell? ⟨w.heap.size + 1, 1, none⟩ = some (.int .u8 e.kind) ∧ w'.cell? ⟨w.heap.size + 1, 2, none⟩ = some (.int .i64 e.mode) ∧ w'.cell? ⟨w.heap.size + 1, 3, none⟩ = some (.int .i64 e.uid) ∧ w'.cell? ⟨w.heap.size + 1, 4, none⟩ = some (.int .i64 e.gid) ∧ w'.cell? ⟨w.heap.size + 1, 5, none⟩ = some (.int .i64 e.size) ∧ w'.cell? ⟨w.heap.size + 1, 6, none⟩ = some (.int .i64 e.sec) ∧ w'.cell? ⟨w.heap.size + 1, 7, none⟩ = some (.int .i64 e.nano) ∧ w'.cell? ⟨w.heap.size + 1, 8, none⟩ = some (.string (bs e.link)) ∧ w'.cell? ⟨w.heap.size + 1, 9, none⟩ = some (.string (bs e.user)) ∧ w'.cell? ⟨w.heap.size + 1, 10, none⟩ = some (.string (bs e.group)) ∧ w'.cell? ⟨w.heap.size + 1, 11, none⟩ = some (.int .i64 e.major) ∧ w'.cell? ⟨w.heap.size + 1, 12, none⟩ = some (.int .i64 e.minor) ∧ w'.cell? ⟨w.heap.size + 1, 13, none⟩ = some (.string (bs e.data)) ∧ w'.cell? ⟨w.heap.size + 1, 14, none⟩ = some mv ∧ Below W.heap.size W w') (by kernel_rfl) (KC.out _ (Below.drew bw)) (fun hHeld => ?_)
      refine wpAnyH_takeD (i := 0) (d := 44) (listed' := #[true, false, false, false, false, false, false, false, false, false, false, false, false, false, false]) (v := ?_) rfl (by kernel_rfl) (by kernel_rfl) (by kernel_rfl) (by kernel_rfl) (by kernel_rfl) (fun _ _ _ h => h) (Or.inl ⟨by kernel_rfl, ?_⟩) (by assumption) ?_; rotate_left; (focus (intro w hSw; (try dsimp only at hSw); go_simp; (try with_reducible rfl))); (try simp only [List.foldl_cons, List.foldl_nil, Act.put, List.setIfInBounds_toArray, List.set_cons_zero, List.set_cons_succ])
      refine wpAnyH_takeD (i := 1) (d := 45) (listed' := #[true, true, false, false, false, false, false, false, false, false, false, false, false, false, false]) (v := ?_) rfl (by kernel_rfl) (by kernel_rfl) (by kernel_rfl) (by kernel_rfl) (by kernel_rfl) (fun _ _ _ h => h) (Or.inl ⟨by kernel_rfl, ?_⟩) (by assumption) ?_; rotate_left; (focus (intro w hSw; (try dsimp only at hSw); go_simp; (try with_reducible rfl))); (try simp only [List.foldl_cons, List.foldl_nil, Act.put, List.setIfInBounds_toArray, List.set_cons_zero, List.set_cons_succ])
      refine wpAnyH_takeD (i := 2) (d := 46) (listed' := #[true, true, true, false, false, false, false, false, false, false, false, false, false, false, false]) (v := ?_) rfl (by kernel_rfl) (by kernel_rfl) (by kernel_rfl) (by kernel_rfl) (by kernel_rfl) (fun _ _ _ h => h) (Or.inl ⟨by kernel_rfl, ?_⟩) (by assumption) ?_; rotate_left; (focus (intro w hSw; (try dsimp only at hSw); go_simp; (try with_reducible rfl))); (try simp only [List.foldl_cons, List.foldl_nil, Act.put, List.setIfInBounds_toArray, List.set_cons_zero, List.set_cons_succ])
      refine wpAnyH_takeD (i := 3) (d := 47) (listed' := #[true, true, true, true, false, false, false, false, false, false, false, false, false, false, false]) (v := ?_) rfl (by kernel_rfl) (by kernel_rfl) (by kernel_rfl) (by kernel_rfl) (by kernel_rfl) (fun _ _ _ h => h) (Or.inl ⟨by kernel_rfl, ?_⟩) (by assumption) ?_; rotate_left; (focus (intro w hSw; (try dsimp only at hSw); go_simp; (try with_reducible rfl))); (try simp only [List.foldl_cons, List.foldl_nil, Act.put, List.setIfInBounds_toArray, List.set_cons_zero, List.set_cons_succ])
      refine wpAnyH_takeD (i := 4) (d := 48) (listed' := #[true, true, true, true, true, false, false, false, false, false, false, false, false, false, false]) (v := ?_) rfl (by kernel_rfl) (by kernel_rfl) (by kernel_rfl) (by kernel_rfl) (by kernel_rfl) (fun _ _ _ h => h) (Or.inl ⟨by kernel_rfl, ?_⟩) (by assumption) ?_; rotate_left; (focus (intro w hSw; (try dsimp only at hSw); go_simp; (try with_reducible rfl))); (try simp only [List.foldl_cons, List.foldl_nil, Act.put, List.setIfInBounds_toArray, List.set_cons_zero, List.set_cons_succ])
      refine wpAnyH_takeD (i := 5) (d := 49) (listed' := #[true, true, true, true, true, true, false, false, false, false, false, false, false, false, false]) (v := ?_) rfl (by kernel_rfl) (by kernel_rfl) (by kernel_rfl) (by kernel_rfl) (by kernel_rfl) (fun _ _ _ h => h) (Or.inl ⟨by kernel_rfl, ?_⟩) (by assumption) ?_; rotate_left; (focus (intro w hSw; (try dsimp only at hSw); go_simp; (try with_reducible rfl))); (try simp only [List.foldl_cons, List.foldl_nil, Act.put, List.setIfInBounds_toArray, List.set_cons_zero, List.set_cons_succ])
      refine wpAnyH_takeD (i := 6) (d := 50) (listed' := #[true, true, true, true, true, true, true, false, false, false, false, false, false, false, false]) (v := ?_) rfl (by kernel_rfl) (by kernel_rfl) (by kernel_rfl) (by kernel_rfl) (by kernel_rfl) (fun _ _ _ h => h) (Or.inl ⟨by kernel_rfl, ?_⟩) (by assumption) ?_; rotate_left; (focus (intro w hSw; (try dsimp only at hSw); go_simp; (try with_reducible rfl))); (try simp only [List.foldl_cons, List.foldl_nil, Act.put, List.setIfInBounds_toArray, List.set_cons_zero, List.set_cons_succ])
      refine wpAnyH_takeD (i := 7) (d := 51) (listed' := #[true, true, true, true, true, true, true, true, false, false, false, false, false, false, false]) (v := ?_) rfl (by kernel_rfl) (by kernel_rfl) (by kernel_rfl) (by kernel_rfl) (by kernel_rfl) (fun _ _ _ h => h) (Or.inl ⟨by kernel_rfl, ?_⟩) (by assumption) ?_; rotate_left; (focus (intro w hSw; (try dsimp only at hSw); go_simp; (try with_reducible rfl))); (try simp only [List.foldl_cons, List.foldl_nil, Act.put, List.setIfInBounds_toArray, List.set_cons_zero, List.set_cons_succ])
      refine wpAnyH_skips_of (ds := [some 52, some 53, some 54, some 55, some 56]) (listed' := #[true, true, true, true, true, true, true, true, true, true, true, true, true, false, false]) (fuel := 2) [8, 9, 10, 11, 12] [(7, some false)] (by kernel_rfl) (by kernel_rfl) (by kernel_rfl) (by kernel_rfl) (by kernel_rfl) (fun _ _ _ _ _ h => h) (by assumption) (by intro p hp; rw [List.mem_singleton.1 hp]; kernel_rfl) ?_
      (try simp only [List.foldl_cons, List.foldl_nil, Act.put, List.setIfInBounds_toArray, List.set_cons_zero, List.set_cons_succ])
      refine wpAnyH_takeD (i := 13) (d := 57) (listed' := #[true, true, true, true, true, true, true, true, true, true, true, true, true, true, false]) (v := ?_) rfl (by kernel_rfl) (by kernel_rfl) (by kernel_rfl) (by kernel_rfl) (by kernel_rfl) (fun _ _ _ h => h) (Or.inl ⟨by kernel_rfl, ?_⟩) (by assumption) ?_; rotate_left; (focus (intro w hSw; (try dsimp only at hSw); go_simp; (try with_reducible rfl))); (try simp only [List.foldl_cons, List.foldl_nil, Act.put, List.setIfInBounds_toArray, List.set_cons_zero, List.set_cons_succ])
      refine wpAnyH_ready (rs := [14]) (by kernel_rfl) (by simp) ?_
      refine AllReadyH.cons rfl (fun K hK => ?_) AllReadyH.nil
      go_simp
      refine (ADD.out _ _ _ _ (Acc.drew A5.out) (by omega)).mono ?_
      rintro r w6 ⟨rfl, h6⟩
      obtain ⟨L6, hL6, lL6, A6⟩ := h6.gen lL5
      clear h6
      refine hK.out _ _ (KC.out w6 A6.out.bel) (fun hHeld2 => ?_)
      clear hK K hHeld
      (try simp only [List.foldl_cons, List.foldl_nil, Act.put, List.setIfInBounds_toArray, List.set_cons_zero, List.set_cons_succ])
      refine wpAnyH_done (by kernel_rfl) ?_ _
      go_wp2_with fail
      go_meet
      exact ⟨_, L6, rfl, Lib.hid (by rw [hL6.out]; simp [hs]), lL6, A6⟩
  case rest =>
  obtain ⟨w6, L6, rfl, hL6, lL6, A6⟩ := hcut
  clear n6 c5 c0 c1 c2 c3 c4 c6 c7 c8 c9 c10 c11 c12 c13 c14
  clear KC bw BYW
  have n7 : w6.cell? ⟨w.heap.size, 7, none⟩ = some (.string (bs n.link)) := (BN.out.below A6.out.bel lN).cell 7; have c8 : w6.cell? ⟨w.heap.size + 1, 8, none⟩ = some (.string (bs e.link)) := (BE.out.below A6.out.bel lE).cell 8
  go_wp2_with fail
  refine (ADD.out _ _ _ _ A6.out (by omega)).mono ?_; rintro r w7 ⟨rfl, h⟩; obtain ⟨L7, hL7, lL7, A7⟩ := h.gen lL6; clear h
  clear n7 c8
  have n8 : w7.cell? ⟨w.heap.size, 8, none⟩ = some (.int .i64 n.major) := (BN.out.below A7.out.bel lN).cell 8; have n9 : w7.cell? ⟨w.heap.size, 9, none⟩ = some (.int .i64 n.minor) := (BN.out.below A7.out.bel lN).cell 9; have c11 : w7.cell? ⟨w.heap.size + 1, 11, none⟩ = some (.int .i64 e.major) := (BE.out.below A7.out.bel lE).cell 11; have c12 : w7.cell? ⟨w.heap.size + 1, 12, none⟩ = some (.int .i64 e.minor) := (BE.out.below A7.out.bel lE).cell 12
  cases hmj : (n.major != e.major) with
  | true =>
    go_wp2_with fail
    refine (ADD.out _ _ _ _ A7.out (by omega)).mono ?_; rintro r w8 ⟨rfl, h⟩; obtain ⟨L8, hL8, lL8, A8⟩ := h.gen lL7; clear h
    have hR : diffs n e = L8 := by
      rw [hL8.out, hL7.out, hL6.out, hL5.out, hL4.out, hL3.out, hL2.out, hL1.out]
      unfold diffs
      simp only [List.nil_append, List.append_assoc]
      have h5 : (!(n.major == e.major) || !(n.minor == e.minor)) = true := by have := hmj; unfold bne at this; rw [this]; rfl
      rw [h5]
      have hlk : ((bs n.link).toList == (bs e.link).toList) = (n.link == e.link) := by rw [Lib.toList_data, Lib.toList_data]; rfl
      unfold bne
      simp only [Bool.not_and, hlk]
    clear n8 n9 c11 c12
    obtain ⟨v, kv, rv⟩ := A8.out.row
    obtain ⟨X, cap, rfl, hcap⟩ := rv.form
    have cv : w8.cell? ⟨w.heap.size + 1 + 1, 0, none⟩ = some (.slice X L8.length cap) := kv.cell 0
    go_wp2_with fail
    go_ret
    rw [hR]
    exact ⟨_, rfl, rv.mono (B' := w.heap.size) (by omega), thenB HB0.out A8.out.bel⟩
  | false =>
    go_wp2_with fail
    refine (ADD.out _ _ _ _ A7.out (by omega)).mono ?_; rintro r w8 ⟨rfl, h⟩; obtain ⟨L8, hL8, lL8, A8⟩ := h.gen lL7; clear h
    have hR : diffs n e = L8 := by
      rw [hL8.out, hL7.out, hL6.out, hL5.out, hL4.out, hL3.out, hL2.out, hL1.out]
      unfold diffs
      simp only [List.nil_append, List.append_assoc]
      have h5 : (!(n.major == e.major) || !(n.minor == e.minor)) = (n.minor != e.minor) := by have := hmj; unfold bne at this; rw [this]; rfl
      rw [h5]
      have hlk : ((bs n.link).toList == (bs e.link).toList) = (n.link == e.link) := by rw [Lib.toList_data, Lib.toList_data]; rfl
      unfold bne
      simp only [Bool.not_and, hlk]
    clear n8 n9 c11 c12
    obtain ⟨v, kv, rv⟩ := A8.out.row
    obtain ⟨X, cap, rfl, hcap⟩ := rv.form
    have cv : w8.cell? ⟨w.heap.size + 1 + 1, 0, none⟩ = some (.slice X L8.length cap) := kv.cell 0
    go_wp2_with fail
    go_ret
    rw [hR]
    exact ⟨_, rfl, rv.mono (B' := w.heap.size) (by omega), thenB HB0.out A8.out.bel⟩

end Go.Proofs.YtipajekehbpghaaGreatDoor

namespace Go.Proofs.YtipajekehbpghaaGreatDoor
open Go.RowKit Go.Maps Tre Pk

set_option maxRecDepth 100000 in
set_option maxHeartbeats 4000000 in
theorem bytes_any (e : Ent) (mv : Value) (w : World) (hp : Pcs w mv e.map) (hd : e.data.length ≤ 100000) (hl : e.map.length ≤ 1000000000000)
    (hr : sparse e = true → Hol.rightI e.map e.size = true ∧ (e.data.length : Int) = sizeI e.map ∧ e.size ≤ 4000) :
    Calls Tryz.prog 147 #[ev e mv] w fun r w' => r = .returned (.string (bs (bytesE e))) ∧ Below w.heap.size w w' := by
  have SP := Lib.hid (fun w' (hb : Below w.heap.size w w') => sparse_any e mv w' (hp.below hb) (by omega) hl)
  have hn : bytesE e = if sparse e = false then e.data else Hol.put e.data (natP e.map) e.size.toNat := by
    unfold bytesE
    by_cases h : sparse e = false
    · rw [if_pos h, if_pos h]
    · obtain ⟨a, b, c⟩ := hr (by simpa using h)
      rw [if_neg h, if_neg h, if_neg (by rw [a]; simp [b]), if_neg (by omega)]
  have HRR := Lib.hid hr
  have PT := Lib.hid (fun w' (hb : Below w.heap.size w w') (qs : List Hol.Pc) (h1 : e.map = qs.map Hol.castP) (n : Nat) => put_any (bs e.data) mv qs n w' (by rw [← h1]; exact hp.below hb))
  obtain ⟨R, hR⟩ : ∃ R, R = bytesE e := ⟨_, rfl⟩
  obtain ⟨sp, hsp⟩ : ∃ sp, sp = sparse e := ⟨_, rfl⟩
  rw [← hsp] at SP HRR hn
  rw [← hR] at hn ⊢
  have HN := Lib.hid hn
  obtain ⟨n, k, m1, m2, m3, z, s, na, l, u, g, mj, mn, d, mp⟩ := e
  have hev : ev ⟨n, k, m1, m2, m3, z, s, na, l, u, g, mj, mn, d, mp⟩ mv = .agg #[.string (bs n), .int .u8 k, .int .i64 m1, .int .i64 m2, .int .i64 m3, .int .i64 z, .int .i64 s, .int .i64 na, .string (bs l), .string (bs u), .string (bs g), .int .i64 mj, .int .i64 mn, .string (bs d), mv] := rfl
  rw [hev] at SP ⊢
  simp only at HN HRR PT hd hl
  have B0 := Lib.hid ((Below.refl w.heap.size w).alloc (Nat.le_refl _) (.cells #[.string (bs n), .int .u8 k, .int .i64 m1, .int .i64 m2, .int .i64 m3, .int .i64 z, .int .i64 s, .int .i64 na, .string (bs l), .string (bs u), .string (bs g), .int .i64 mj, .int .i64 mn, .string (bs d), mv] 40))
  have K0 := Lib.hid (Blk.new w 40 #[.string (bs n), .int .u8 k, .int .i64 m1, .int .i64 m2, .int .i64 m3, .int .i64 z, .int .i64 s, .int .i64 na, .string (bs l), .string (bs u), .string (bs g), .int .i64 mj, .int .i64 mn, .string (bs d), mv])
  have SPW := Lib.hid (SP.out _ B0.out)
  clear hn hR hsp hp hr hl hev SP
  go_enter Tryz.func147, Tryz.ntmps147
  go_wp2_with fail
  refine SPW.out.mono ?_
  rintro r w1 ⟨rfl, h1⟩
  have B1 := Lib.hid (thenB B0.out h1)
  have K1 := Lib.hid (K0.out.below h1 K0.out.lt)
  clear h1 SPW K0
  cases sp with
  | false =>
    have er : R = d := by rw [HN.out, if_pos rfl]
    subst er
    have c13 : w1.cell? ⟨w.heap.size, 13, none⟩ = some (.string (bs R)) := K1.out.cell 13
    go_wp2_with fail
    go_ret
    exact ⟨rfl, B1.out⟩
  | true =>
    obtain ⟨r1, r2, r3⟩ := HRR.out rfl
    obtain ⟨z0, qs, c1, c2, c3, c4⟩ := sizeI_right' r1
    obtain ⟨zn, rfl⟩ := Int.eq_ofNat_of_zero_le z0
    rw [Int.toNat_natCast] at c2
    have er : R = Hol.put d qs zn := by rw [HN.out, if_neg (by simp), c1, natP_cast', Int.toNat_natCast]
    have PW := Lib.hid (PT.out _ B1.out qs c1 zn c2 c3 (by omega) (by rw [bs_size]; have := r2.trans c4; omega))
    rw [bs_list] at PW
    have d5 := K1.out.cell 5
    have d13 := K1.out.cell 13
    have d14 := K1.out.cell 14
    simp only [List.getElem?_toArray, List.getElem?_cons_succ, List.getElem?_cons_zero] at d5 d13 d14
    subst er
    clear r1 r2 r3 c1 c2 c3 c4 z0 HN HRR PT
    go_wp2_with fail
    refine PW.out.mono ?_
    rintro r w4 ⟨rfl, h4⟩
    have B4 := Lib.hid (thenB B1.out h4)
    clear h4 PW d5 d13 d14
    go_wp2_with fail
    go_ret
    exact ⟨rfl, B4.out⟩

theorem differences_any (n : Nd) (e : Ent) (mv : Value) (w : World) (hn : n.data.length ≤ 1000000000000) (hp : Pcs w mv e.map) (hr : rightE e = true) :
    Calls Tryz.prog 122 #[ndv n, ev e mv] w (IntPost w (diffs n e)) := by
  obtain ⟨_, _, _, r4⟩ := right_ent hr
  obtain ⟨d1, d2⟩ := filled_data r4
  exact differences_lit n e mv w hn fun w' hb => bytes_any e mv w' (hp.below hb) (by omega) (by omega) fun hs => filled_sparse r4 hs

end Go.Proofs.YtipajekehbpghaaGreatDoor

namespace Go.Proofs.YtipajekehbpghaaGreatDoor
open Go.RowKit Go.Maps Tre Pk

theorem IntPost.nil {w w' : World} {l : List Int} (hl : l = []) (h : Below w.heap.size w w') : IntPost w l (.returned (.slice none 0 0)) w' := by
  rw [hl]; exact ⟨_, rfl, HasI.nil _ _, h⟩
theorem IntPost.one {w w' : World} {l : List Int} {a : Int} (hl : l = [a]) (h : Below w.heap.size w w') : IntPost w l (.returned (.slice (some ⟨w'.heap.size, 0, none⟩) 1 1)) (w'.alloc (.cells #[.int .i64 a] 3)) := by
  rw [hl]; exact ⟨_, rfl, HasI.one _ _ h.size _, h.alloc h.size _⟩

theorem IntPost.at_ {w w' : World} {l : List Int} {a : Int} {g : Nat} (hl : l = [a]) (hg : g = w'.heap.size) (h : Below w.heap.size w w') : IntPost w l (.returned (.slice (some ⟨g, 0, none⟩) 1 1)) (w'.alloc (.cells #[.int .i64 a] 3)) := by
  rw [hg]; exact IntPost.one hl h

set_option maxRecDepth 100000 in
set_option maxHeartbeats 8000000 in
theorem compared_any {w : World} {g : Nat} {on of : Option Nat} {t : T} (hm : ML w) (h : TreeAt w g on of t) (ht : Std t) (hx : t.nx ≤ 100000) (e : Ent) (mv : Value) (hp : Pcs w mv e.map) (hr : rightE e = true) :
    Calls Tryz.prog 74 #[.pointer (some ⟨g, 0, none⟩), ev e mv] w (IntPost w (comparedE t e)) := by
  obtain ⟨r1, r2, r3, r4⟩ := right_ent hr
  obtain ⟨W, hW⟩ : ∃ W, W = w.alloc (.cells #[.string (bs e.name), .int .u8 e.kind, .int .i64 e.mode, .int .i64 e.uid, .int .i64 e.gid, .int .i64 e.size, .int .i64 e.sec, .int .i64 e.nano, .string (bs e.link), .string (bs e.user), .string (bs e.group), .int .i64 e.major, .int .i64 e.minor, .string (bs e.data), mv] 40) := ⟨_, rfl⟩
  have HB0 := Lib.hid (show Below w.heap.size w W by rw [hW]; exact (Below.refl _ _).alloc (Nat.le_refl _) _)
  have hWs : W.heap.size = w.heap.size + 1 := by rw [hW]; simp
  have BEW := Lib.hid (show Blk W w.heap.size 40 (evc e mv) by rw [hW]; exact Blk.new w 40 _)
  have lE : w.heap.size < W.heap.size := by omega
  have FIN := Lib.hid (fun w' (h : Below W.heap.size W w') => (thenB HB0.out h : Below w.heap.size w w'))
  have HM := Lib.hid (hm.below HB0.out)
  have HT := Lib.hid (h.below HB0.out)
  have HP := Lib.hid (hp.below HB0.out)
  have HS := Lib.hid ht
  have DF := Lib.hid (fun w' (hb : Below W.heap.size W w') (n : Nd) (hd : n.data.length ≤ 1000000000000) => differences_any n e mv w' hd (HP.out.below hb) hr)
  have HW := Lib.hid hW
  have lcn := Pth.clean_len e.name
  have lcl := Pth.clean_len e.link
  have C1 := Lib.hid (fun w' (hb : Below W.heap.size W w') => clean_any (bs e.name) w' (by rw [bs_size]; omega) (HM.out.below hb))
  have C2 := Lib.hid (fun w' (hb : Below W.heap.size W w') => clean_any (bs e.link) w' (by rw [bs_size]; omega) (HM.out.below hb))
  rw [bs_list] at C1 C2
  have hcmp : comparedE t e = if Pth.clean e.name = [] ∧ e.kind = 53 then []
    else match t.get (Pth.clean e.name) with
      | none => [1]
      | some n => if e.kind = 49 then (if n.kind = 53 ∨ t.alike (Pth.clean e.name) (Pth.clean e.link) = false then [9] else []) else if n.kind ≠ e.kind then [2] else diffs n e := rfl
  obtain ⟨R, hR⟩ : ∃ R, R = comparedE t e := ⟨_, rfl⟩
  obtain ⟨a, ha⟩ : ∃ a, a = Pth.clean e.name := ⟨_, rfl⟩
  obtain ⟨b, hb⟩ : ∃ a, a = Pth.clean e.link := ⟨_, rfl⟩
  rw [← hR, ← ha, ← hb] at hcmp
  rw [← ha] at C1 lcn
  rw [← hb] at C2 lcl
  rw [← hR]
  have HC := Lib.hid hcmp
  unfold ev evc
  clear hm h hp ht hr hW hcmp hR ha hb
  have k53 : ((e.kind : Int) == 53) = (e.kind == 53) := kindB e.kind 53
  have k49 : ((e.kind : Int) == 49) = (e.kind == 49) := kindB e.kind 49
  go_enter Tryz.func74, Tryz.ntmps74
  go_wp2_with fail
  rw [← HW.out]
  refine (C1.out _ (Below.refl _ _)).mono ?_
  rintro r w1 ⟨rfl, h1⟩
  have B1 := Lib.hid h1
  clear h1 HW C1
  have kE := BEW.out.below B1.out lE; have c0 : w1.cell? ⟨w.heap.size, 0, none⟩ = some (.string (bs e.name)) := kE.cell 0; have c1 : w1.cell? ⟨w.heap.size, 1, none⟩ = some (.int .u8 e.kind) := kE.cell 1; have c2 : w1.cell? ⟨w.heap.size, 2, none⟩ = some (.int .i64 e.mode) := kE.cell 2; have c3 : w1.cell? ⟨w.heap.size, 3, none⟩ = some (.int .i64 e.uid) := kE.cell 3; have c4 : w1.cell? ⟨w.heap.size, 4, none⟩ = some (.int .i64 e.gid) := kE.cell 4; have c5 : w1.cell? ⟨w.heap.size, 5, none⟩ = some (.int .i64 e.size) := kE.cell 5; have c6 : w1.cell? ⟨w.heap.size, 6, none⟩ = some (.int .i64 e.sec) := kE.cell 6; have c7 : w1.cell? ⟨w.heap.size, 7, none⟩ = some (.int .i64 e.nano) := kE.cell 7; have c8 : w1.cell? ⟨w.heap.size, 8, none⟩ = some (.string (bs e.link)) := kE.cell 8; have c9 : w1.cell? ⟨w.heap.size, 9, none⟩ = some (.string (bs e.user)) := kE.cell 9; have c10 : w1.cell? ⟨w.heap.size, 10, none⟩ = some (.string (bs e.group)) := kE.cell 10; have c11 : w1.cell? ⟨w.heap.size, 11, none⟩ = some (.int .i64 e.major) := kE.cell 11; have c12 : w1.cell? ⟨w.heap.size, 12, none⟩ = some (.int .i64 e.minor) := kE.cell 12; have c13 : w1.cell? ⟨w.heap.size, 13, none⟩ = some (.string (bs e.data)) := kE.cell 13; have c14 : w1.cell? ⟨w.heap.size, 14, none⟩ = some mv := kE.cell 14; clear kE
  by_cases hA : a = [] ∧ e.kind = 53
  · have er : R = [] := by rw [HC.out, if_pos hA]
    obtain ⟨rfl, h53⟩ := hA
    have q1 : (bs []).toList.isEmpty = true := by rw [List.isEmpty_iff]; exact (str_nil []).2 rfl
    have q2 : ((e.kind : Int) == 53) = true := by rw [h53]; rfl
    clear h53
    go_wp2_with fail
    go_ret
    exact IntPost.nil er (FIN.out _ B1.out)
  have hways : ((bs a).toList.isEmpty = true ∧ ((e.kind : Int) == 53) = false) ∨ (bs a).toList.isEmpty = false := by
    by_cases a0 : a = []
    · left
      refine ⟨by rw [List.isEmpty_iff]; exact (str_nil a).2 a0, ?_⟩
      rw [k53, beq_eq_false_iff_ne]
      exact fun h => hA ⟨a0, h⟩
    · right
      rw [← Bool.not_eq_true, List.isEmpty_iff]
      exact fun e => a0 ((str_nil a).1 e)
  clear k53
  rcases hways with ⟨q1, q2⟩ | q1
  ·
    have TB := Lib.hid (HT.out.below B1.out)
    have GB := Lib.hid (get_any TB.out (bs a) (fun k hk => by have := (HS.out.short hk).2; omega) (by rw [bs_size]; omega))
    rw [bs_list] at GB
    cases hl : Tre.look t.ents a with
    | none =>
      have er : R = [1] := by rw [HC.out, if_neg hA, show t.get a = none by unfold T.get; rw [hl]; rfl]
      rw [getV_none hl] at GB
      unfold ndv ndc zero at GB
      simp only at GB
      clear hl
      go_wp2_with fail
      clear c0 c1 c2 c3 c4 c5 c6 c7 c8 c9 c10 c11 c12 c13 c14
      refine GB.out.mono ?_
      rintro r w2 ⟨rfl, h2⟩
      have B2 := Lib.hid (thenB B1.out h2)
      clear h2
      go_wp2_with fail
      go_ret
      exact IntPost.at_ er (by simp) (FIN.out _ (B2.out.alloc B2.out.size _))
    | some k =>
      obtain ⟨_, _, nn, hfl, hnr'⟩ := HS.out.ok _ (look_mem hl)
      have hnr : rightN (t.file k) = true := by unfold T.file; simp only at hfl; rw [hfl]; exact hnr'
      clear hnr' hfl
      have hn3 := rightN_bd hnr
      have hgn : t.get a = some (t.file k) := get_of hl
      rw [getV_of hl] at GB
      obtain ⟨n, hn⟩ : ∃ n, n = t.file k := ⟨_, rfl⟩
      rw [← hn] at GB hn3 hgn
      have HC2 := Lib.hid (show R = if e.kind = 49 then (if n.kind = 53 ∨ t.alike a b = false then [9] else []) else if n.kind ≠ e.kind then [2] else diffs n e by rw [HC.out, if_neg hA, hgn])
      unfold ndv ndc at GB
      clear hl hn hgn hnr
      go_wp2_with fail
      clear c0 c1 c2 c3 c4 c5 c6 c7 c8 c9 c10 c11 c12 c13 c14
      refine GB.out.mono ?_
      rintro r w2 ⟨rfl, h2⟩
      have B2 := Lib.hid (thenB B1.out h2)
      clear h2
      obtain ⟨W4, hW4⟩ : ∃ W4, W4 = w2.alloc (.cells #[.int .u8 n.kind, .int .i64 n.mode, .int .i64 n.uid, .int .i64 n.gid, .int .i64 n.sec, .int .i64 n.nano, .string (bs n.data), .string (bs n.link), .int .i64 n.major, .int .i64 n.minor] 33) := ⟨_, rfl⟩
      have B4 := Lib.hid (show Below W.heap.size W W4 by rw [hW4]; exact B2.out.alloc B2.out.size _)
      have BNW := Lib.hid (show Blk W4 w2.heap.size 33 #[.int .u8 n.kind, .int .i64 n.mode, .int .i64 n.uid, .int .i64 n.gid, .int .i64 n.sec, .int .i64 n.nano, .string (bs n.data), .string (bs n.link), .int .i64 n.major, .int .i64 n.minor] by rw [hW4]; exact Blk.new w2 33 _)
      have HW4 := Lib.hid hW4
      have lN := BNW.out.lt
      clear hW4
      repeat' ((fail_if_success (with_reducible refine halt_at 5 ?_)); first | go_values | go_skip | go_guarded | go_step | go_upon | go_back | (simp only [Int.not_lt, Int.not_le] at *; go_simp) | (go_values <;> (try go_simp)) | (go_ite <;> go_prune <;> (try go_simp)) | (split <;> (first | (rename_i hx; exact (hx _ rfl).elim) | go_prune)))
      rw [← HW4.out]
      clear HW4
      have kE := BEW.out.below B4.out lE; have c0 : W4.cell? ⟨w.heap.size, 0, none⟩ = some (.string (bs e.name)) := kE.cell 0; have c1 : W4.cell? ⟨w.heap.size, 1, none⟩ = some (.int .u8 e.kind) := kE.cell 1; have c2 : W4.cell? ⟨w.heap.size, 2, none⟩ = some (.int .i64 e.mode) := kE.cell 2; have c3 : W4.cell? ⟨w.heap.size, 3, none⟩ = some (.int .i64 e.uid) := kE.cell 3; have c4 : W4.cell? ⟨w.heap.size, 4, none⟩ = some (.int .i64 e.gid) := kE.cell 4; have c5 : W4.cell? ⟨w.heap.size, 5, none⟩ = some (.int .i64 e.size) := kE.cell 5; have c6 : W4.cell? ⟨w.heap.size, 6, none⟩ = some (.int .i64 e.sec) := kE.cell 6; have c7 : W4.cell? ⟨w.heap.size, 7, none⟩ = some (.int .i64 e.nano) := kE.cell 7; have c8 : W4.cell? ⟨w.heap.size, 8, none⟩ = some (.string (bs e.link)) := kE.cell 8; have c9 : W4.cell? ⟨w.heap.size, 9, none⟩ = some (.string (bs e.user)) := kE.cell 9; have c10 : W4.cell? ⟨w.heap.size, 10, none⟩ = some (.string (bs e.group)) := kE.cell 10; have c11 : W4.cell? ⟨w.heap.size, 11, none⟩ = some (.int .i64 e.major) := kE.cell 11; have c12 : W4.cell? ⟨w.heap.size, 12, none⟩ = some (.int .i64 e.minor) := kE.cell 12; have c13 : W4.cell? ⟨w.heap.size, 13, none⟩ = some (.string (bs e.data)) := kE.cell 13; have c14 : W4.cell? ⟨w.heap.size, 14, none⟩ = some mv := kE.cell 14; clear kE
      have n0 : W4.cell? ⟨w2.heap.size, 0, none⟩ = some (.int .u8 n.kind) := BNW.out.cell 0
      have n1 : W4.cell? ⟨w2.heap.size, 1, none⟩ = some (.int .i64 n.mode) := BNW.out.cell 1
      have n2 : W4.cell? ⟨w2.heap.size, 2, none⟩ = some (.int .i64 n.uid) := BNW.out.cell 2
      have n3 : W4.cell? ⟨w2.heap.size, 3, none⟩ = some (.int .i64 n.gid) := BNW.out.cell 3
      have n4 : W4.cell? ⟨w2.heap.size, 4, none⟩ = some (.int .i64 n.sec) := BNW.out.cell 4
      have n5 : W4.cell? ⟨w2.heap.size, 5, none⟩ = some (.int .i64 n.nano) := BNW.out.cell 5
      have n6 : W4.cell? ⟨w2.heap.size, 6, none⟩ = some (.string (bs n.data)) := BNW.out.cell 6
      have n7 : W4.cell? ⟨w2.heap.size, 7, none⟩ = some (.string (bs n.link)) := BNW.out.cell 7
      have n8 : W4.cell? ⟨w2.heap.size, 8, none⟩ = some (.int .i64 n.major) := BNW.out.cell 8
      have n9 : W4.cell? ⟨w2.heap.size, 9, none⟩ = some (.int .i64 n.minor) := BNW.out.cell 9
      cases k1 : ((e.kind : Int) == 49) with
      | true =>
        have h49 : e.kind = 49 := by rw [k49] at k1; simpa using k1
        have HC3 := Lib.hid (show R = if n.kind = 53 ∨ t.alike a b = false then [9] else [] by rw [HC2.out, if_pos h49])
        clear h49
        go_wp2_with fail
        refine (C2.out _ B4.out).mono ?_
        rintro r w5 ⟨rfl, h5⟩
        have B5 := Lib.hid (thenB B4.out h5)
        have m0 : w5.cell? ⟨w2.heap.size, 0, none⟩ = some (.int .u8 n.kind) := (BNW.out.below h5 lN).cell 0
        have AL := Lib.hid (alike_any (HT.out.below B5.out) (bs a) (bs b) (by rw [bs_size]; omega) (by rw [bs_size]; omega))
        rw [bs_list, bs_list] at AL
        clear c0 c1 c2 c3 c4 c5 c6 c7 c8 c9 c10 c11 c12 c13 c14
        clear h5 n0 n1 n2 n3 n4 n5 n6 n7 n8 n9
        cases k2 : ((n.kind : Int) == 53) with
        | true =>
          have h53 : n.kind = 53 := by have := k2; rw [show ((n.kind : Int) == 53) = (n.kind == 53) from kindB n.kind 53] at this; simpa using this
          have er : R = [9] := by rw [HC3.out, if_pos (.inl h53)]
          clear h53
          go_wp2_with fail
          go_ret
          exact IntPost.one er (FIN.out _ B5.out)
        | false =>
          have h53 : n.kind ≠ 53 := fun h => by rw [h] at k2; cases k2
          cases hal : t.alike a b with
          | false =>
            have er : R = [9] := by rw [HC3.out, if_pos (.inr hal)]
            rw [hal] at AL
            clear h53 hal
            go_wp2_with fail
            refine AL.out.mono ?_
            rintro r w6 ⟨rfl, hw⟩
            subst w6
            go_wp2_with fail
            go_ret
            exact IntPost.one er (FIN.out _ B5.out)
          | true =>
            have er : R = [] := by rw [HC3.out, if_neg (by rw [hal]; simp [h53])]
            rw [hal] at AL
            clear h53 hal
            go_wp2_with fail
            refine AL.out.mono ?_
            rintro r w6 ⟨rfl, hw⟩
            subst w6
            go_wp2_with fail
            go_ret
            exact IntPost.nil er (FIN.out _ B5.out)
      | false =>
        have h49 : e.kind ≠ 49 := fun h => by rw [h] at k1; cases k1
        cases k2 : ((n.kind : Int) != e.kind) with
        | true =>
          have hne : n.kind ≠ e.kind := fun h => by rw [h] at k2; simp at k2
          have er : R = [2] := by rw [HC2.out, if_neg h49, if_pos hne]
          clear h49 hne
          go_wp2_with fail
          go_ret
          exact IntPost.one er (FIN.out _ B4.out)
        | false =>
          have hne : ¬ n.kind ≠ e.kind := fun h => by
            have : ((n.kind : Int) != e.kind) = true := by rw [bne_iff_ne]; omega
            rw [this] at k2; cases k2
          have er : R = diffs n e := by rw [HC2.out, if_neg h49, if_neg hne]
          have DN := Lib.hid (DF.out _ B4.out n (by omega))
          unfold ev evc ndv ndc at DN
          clear h49 hne
          go_wp2_with fail
          refine DN.out.mono ?_
          rintro r w5 ⟨v, rfl, hv, h5⟩
          have B5 := Lib.hid (thenB B4.out h5)
          have HV := Lib.hid hv
          obtain ⟨X, cap, rfl, _⟩ := hv.form
          clear hv h5
          go_wp2_with fail
          go_ret
          exact ⟨_, rfl, by rw [er]; exact HV.out.mono (by have := B4.out.size; omega), FIN.out _ B5.out⟩
  ·
    have TB := Lib.hid (HT.out.below B1.out)
    have GB := Lib.hid (get_any TB.out (bs a) (fun k hk => by have := (HS.out.short hk).2; omega) (by rw [bs_size]; omega))
    rw [bs_list] at GB
    cases hl : Tre.look t.ents a with
    | none =>
      have er : R = [1] := by rw [HC.out, if_neg hA, show t.get a = none by unfold T.get; rw [hl]; rfl]
      rw [getV_none hl] at GB
      unfold ndv ndc zero at GB
      simp only at GB
      clear hl
      go_wp2_with fail
      clear c0 c1 c2 c3 c4 c5 c6 c7 c8 c9 c10 c11 c12 c13 c14
      refine GB.out.mono ?_
      rintro r w2 ⟨rfl, h2⟩
      have B2 := Lib.hid (thenB B1.out h2)
      clear h2
      go_wp2_with fail
      go_ret
      exact IntPost.at_ er (by simp) (FIN.out _ (B2.out.alloc B2.out.size _))
    | some k =>
      obtain ⟨_, _, nn, hfl, hnr'⟩ := HS.out.ok _ (look_mem hl)
      have hnr : rightN (t.file k) = true := by unfold T.file; simp only at hfl; rw [hfl]; exact hnr'
      clear hnr' hfl
      have hn3 := rightN_bd hnr
      have hgn : t.get a = some (t.file k) := get_of hl
      rw [getV_of hl] at GB
      obtain ⟨n, hn⟩ : ∃ n, n = t.file k := ⟨_, rfl⟩
      rw [← hn] at GB hn3 hgn
      have HC2 := Lib.hid (show R = if e.kind = 49 then (if n.kind = 53 ∨ t.alike a b = false then [9] else []) else if n.kind ≠ e.kind then [2] else diffs n e by rw [HC.out, if_neg hA, hgn])
      unfold ndv ndc at GB
      clear hl hn hgn hnr
      go_wp2_with fail
      clear c0 c1 c2 c3 c4 c5 c6 c7 c8 c9 c10 c11 c12 c13 c14
      refine GB.out.mono ?_
      rintro r w2 ⟨rfl, h2⟩
      have B2 := Lib.hid (thenB B1.out h2)
      clear h2
      obtain ⟨W4, hW4⟩ : ∃ W4, W4 = w2.alloc (.cells #[.int .u8 n.kind, .int .i64 n.mode, .int .i64 n.uid, .int .i64 n.gid, .int .i64 n.sec, .int .i64 n.nano, .string (bs n.data), .string (bs n.link), .int .i64 n.major, .int .i64 n.minor] 33) := ⟨_, rfl⟩
      have B4 := Lib.hid (show Below W.heap.size W W4 by rw [hW4]; exact B2.out.alloc B2.out.size _)
      have BNW := Lib.hid (show Blk W4 w2.heap.size 33 #[.int .u8 n.kind, .int .i64 n.mode, .int .i64 n.uid, .int .i64 n.gid, .int .i64 n.sec, .int .i64 n.nano, .string (bs n.data), .string (bs n.link), .int .i64 n.major, .int .i64 n.minor] by rw [hW4]; exact Blk.new w2 33 _)
      have HW4 := Lib.hid hW4
      have lN := BNW.out.lt
      clear hW4
      repeat' ((fail_if_success (with_reducible refine halt_at 5 ?_)); first | go_values | go_skip | go_guarded | go_step | go_upon | go_back | (simp only [Int.not_lt, Int.not_le] at *; go_simp) | (go_values <;> (try go_simp)) | (go_ite <;> go_prune <;> (try go_simp)) | (split <;> (first | (rename_i hx; exact (hx _ rfl).elim) | go_prune)))
      rw [← HW4.out]
      clear HW4
      have kE := BEW.out.below B4.out lE; have c0 : W4.cell? ⟨w.heap.size, 0, none⟩ = some (.string (bs e.name)) := kE.cell 0; have c1 : W4.cell? ⟨w.heap.size, 1, none⟩ = some (.int .u8 e.kind) := kE.cell 1; have c2 : W4.cell? ⟨w.heap.size, 2, none⟩ = some (.int .i64 e.mode) := kE.cell 2; have c3 : W4.cell? ⟨w.heap.size, 3, none⟩ = some (.int .i64 e.uid) := kE.cell 3; have c4 : W4.cell? ⟨w.heap.size, 4, none⟩ = some (.int .i64 e.gid) := kE.cell 4; have c5 : W4.cell? ⟨w.heap.size, 5, none⟩ = some (.int .i64 e.size) := kE.cell 5; have c6 : W4.cell? ⟨w.heap.size, 6, none⟩ = some (.int .i64 e.sec) := kE.cell 6; have c7 : W4.cell? ⟨w.heap.size, 7, none⟩ = some (.int .i64 e.nano) := kE.cell 7; have c8 : W4.cell? ⟨w.heap.size, 8, none⟩ = some (.string (bs e.link)) := kE.cell 8; have c9 : W4.cell? ⟨w.heap.size, 9, none⟩ = some (.string (bs e.user)) := kE.cell 9; have c10 : W4.cell? ⟨w.heap.size, 10, none⟩ = some (.string (bs e.group)) := kE.cell 10; have c11 : W4.cell? ⟨w.heap.size, 11, none⟩ = some (.int .i64 e.major) := kE.cell 11; have c12 : W4.cell? ⟨w.heap.size, 12, none⟩ = some (.int .i64 e.minor) := kE.cell 12; have c13 : W4.cell? ⟨w.heap.size, 13, none⟩ = some (.string (bs e.data)) := kE.cell 13; have c14 : W4.cell? ⟨w.heap.size, 14, none⟩ = some mv := kE.cell 14; clear kE
      have n0 : W4.cell? ⟨w2.heap.size, 0, none⟩ = some (.int .u8 n.kind) := BNW.out.cell 0
      have n1 : W4.cell? ⟨w2.heap.size, 1, none⟩ = some (.int .i64 n.mode) := BNW.out.cell 1
      have n2 : W4.cell? ⟨w2.heap.size, 2, none⟩ = some (.int .i64 n.uid) := BNW.out.cell 2
      have n3 : W4.cell? ⟨w2.heap.size, 3, none⟩ = some (.int .i64 n.gid) := BNW.out.cell 3
      have n4 : W4.cell? ⟨w2.heap.size, 4, none⟩ = some (.int .i64 n.sec) := BNW.out.cell 4
      have n5 : W4.cell? ⟨w2.heap.size, 5, none⟩ = some (.int .i64 n.nano) := BNW.out.cell 5
      have n6 : W4.cell? ⟨w2.heap.size, 6, none⟩ = some (.string (bs n.data)) := BNW.out.cell 6
      have n7 : W4.cell? ⟨w2.heap.size, 7, none⟩ = some (.string (bs n.link)) := BNW.out.cell 7
      have n8 : W4.cell? ⟨w2.heap.size, 8, none⟩ = some (.int .i64 n.major) := BNW.out.cell 8
      have n9 : W4.cell? ⟨w2.heap.size, 9, none⟩ = some (.int .i64 n.minor) := BNW.out.cell 9
      cases k1 : ((e.kind : Int) == 49) with
      | true =>
        have h49 : e.kind = 49 := by rw [k49] at k1; simpa using k1
        have HC3 := Lib.hid (show R = if n.kind = 53 ∨ t.alike a b = false then [9] else [] by rw [HC2.out, if_pos h49])
        clear h49
        go_wp2_with fail
        refine (C2.out _ B4.out).mono ?_
        rintro r w5 ⟨rfl, h5⟩
        have B5 := Lib.hid (thenB B4.out h5)
        have m0 : w5.cell? ⟨w2.heap.size, 0, none⟩ = some (.int .u8 n.kind) := (BNW.out.below h5 lN).cell 0
        have AL := Lib.hid (alike_any (HT.out.below B5.out) (bs a) (bs b) (by rw [bs_size]; omega) (by rw [bs_size]; omega))
        rw [bs_list, bs_list] at AL
        clear c0 c1 c2 c3 c4 c5 c6 c7 c8 c9 c10 c11 c12 c13 c14
        clear h5 n0 n1 n2 n3 n4 n5 n6 n7 n8 n9
        cases k2 : ((n.kind : Int) == 53) with
        | true =>
          have h53 : n.kind = 53 := by have := k2; rw [show ((n.kind : Int) == 53) = (n.kind == 53) from kindB n.kind 53] at this; simpa using this
          have er : R = [9] := by rw [HC3.out, if_pos (.inl h53)]
          clear h53
          go_wp2_with fail
          go_ret
          exact IntPost.one er (FIN.out _ B5.out)
        | false =>
          have h53 : n.kind ≠ 53 := fun h => by rw [h] at k2; cases k2
          cases hal : t.alike a b with
          | false =>
            have er : R = [9] := by rw [HC3.out, if_pos (.inr hal)]
            rw [hal] at AL
            clear h53 hal
            go_wp2_with fail
            refine AL.out.mono ?_
            rintro r w6 ⟨rfl, hw⟩
            subst w6
            go_wp2_with fail
            go_ret
            exact IntPost.one er (FIN.out _ B5.out)
          | true =>
            have er : R = [] := by rw [HC3.out, if_neg (by rw [hal]; simp [h53])]
            rw [hal] at AL
            clear h53 hal
            go_wp2_with fail
            refine AL.out.mono ?_
            rintro r w6 ⟨rfl, hw⟩
            subst w6
            go_wp2_with fail
            go_ret
            exact IntPost.nil er (FIN.out _ B5.out)
      | false =>
        have h49 : e.kind ≠ 49 := fun h => by rw [h] at k1; cases k1
        cases k2 : ((n.kind : Int) != e.kind) with
        | true =>
          have hne : n.kind ≠ e.kind := fun h => by rw [h] at k2; simp at k2
          have er : R = [2] := by rw [HC2.out, if_neg h49, if_pos hne]
          clear h49 hne
          go_wp2_with fail
          go_ret
          exact IntPost.one er (FIN.out _ B4.out)
        | false =>
          have hne : ¬ n.kind ≠ e.kind := fun h => by
            have : ((n.kind : Int) != e.kind) = true := by rw [bne_iff_ne]; omega
            rw [this] at k2; cases k2
          have er : R = diffs n e := by rw [HC2.out, if_neg h49, if_neg hne]
          have DN := Lib.hid (DF.out _ B4.out n (by omega))
          unfold ev evc ndv ndc at DN
          clear h49 hne
          go_wp2_with fail
          refine DN.out.mono ?_
          rintro r w5 ⟨v, rfl, hv, h5⟩
          have B5 := Lib.hid (thenB B4.out h5)
          have HV := Lib.hid hv
          obtain ⟨X, cap, rfl, _⟩ := hv.form
          clear hv h5
          go_wp2_with fail
          go_ret
          exact ⟨_, rfl, by rw [er]; exact HV.out.mono (by have := B4.out.size; omega), FIN.out _ B5.out⟩

end Go.Proofs.YtipajekehbpghaaGreatDoor
