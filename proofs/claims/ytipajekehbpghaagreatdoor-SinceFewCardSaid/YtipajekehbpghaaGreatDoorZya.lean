/-
  since.isDir; since.Gone's closure.
-/
import Derived.Test.YtipajekehbpghaaGreatDoorZu
import Derived.Test.YtipajekehbpghaaGreatDoorZf
import Derived.Test.YtipajekehbpghaaGreatDoorZa
import Derived.Laws.CopyRow
import Derived.Laws.Cells
import Derived.Test.YtipajekehbpghaaGreatDoorZd
import Derived.Laws.IdiomCopy
import Derived.Deep.Slices
import Derived.Deep.Grids
import Derived.Deep.QuietTactic
import Derived.BigQuiet
set_option linter.unusedVariables false
set_option linter.unusedSimpArgs false

namespace Go.Proofs.YtipajekehbpghaaGreatDoor
open Go.RowKit Go.Maps Tre Pk

set_option maxRecDepth 100000 in
set_option maxHeartbeats 4000000 in
theorem isDirS_any {w : World} {g : Nat} {on of : Option Nat} {t : T} (h : TreeAt w g on of t) (ht : Std t) (hx : t.nx ≤ 100000) (s : Pth.Bs) (hs : s.length ≤ 1000) :
    Calls Tryz.prog 85 #[.pointer (some ⟨g, 0, none⟩), .string (bs s)] w fun e w' => e = .returned (.bool (t.isDir s)) ∧ Below w.heap.size w w' := by
  have GB := Lib.hid (get_any h (bs s) (fun k hk => by have := (ht.short hk).2; omega) (by rw [bs_size]; omega))
  rw [bs_list] at GB
  cases hl : Tre.look t.ents s with
  | none =>
    have hd : t.isDir s = false := by unfold T.isDir T.isKind T.get; rw [hl]; rfl
    rw [getV_none hl] at GB
    rw [hd]
    unfold ndv ndc zero at GB
    simp only at GB
    clear h ht hl hd
    go_enter Tryz.func85, Tryz.ntmps85
    go_wp2_with fail
    refine GB.out.mono ?_
    rintro e w1 ⟨rfl, h1⟩
    have B1 := Lib.hid h1
    clear h1
    go_wp2_with fail
    go_ret
    exact ⟨rfl, B1.out.alloc B1.out.size _⟩
  | some k =>
    have hd : t.isDir s = ((t.file k).kind == 53) := isDir_of hl
    rw [getV_of hl] at GB
    rw [hd]
    obtain ⟨n, hn⟩ : ∃ n, n = t.file k := ⟨_, rfl⟩
    rw [← hn] at GB ⊢
    unfold ndv ndc at GB
    have hk : ((n.kind : Int) == 53) = (n.kind == 53) := kindB n.kind 53
    clear h ht hl hd hn
    go_enter Tryz.func85, Tryz.ntmps85
    go_wp2_with fail
    refine GB.out.mono ?_
    rintro e w1 ⟨rfl, h1⟩
    have B1 := Lib.hid h1
    have n0 : (w1.alloc (.cells #[.int .u8 n.kind, .int .i64 n.mode, .int .i64 n.uid, .int .i64 n.gid, .int .i64 n.sec, .int .i64 n.nano, .string (bs n.data), .string (bs n.link), .int .i64 n.major, .int .i64 n.minor] 33)).cell? ⟨w1.heap.size, 0, none⟩ = some (.int .u8 n.kind) := (Blk.new w1 33 #[.int .u8 n.kind, .int .i64 n.mode, .int .i64 n.uid, .int .i64 n.gid, .int .i64 n.sec, .int .i64 n.nano, .string (bs n.data), .string (bs n.link), .int .i64 n.major, .int .i64 n.minor]).cell 0
    clear h1
    go_wp2_with fail
    go_ret
    exact ⟨by first | rfl | (rw [← hk]; rfl), B1.out.alloc B1.out.size _⟩

set_option maxRecDepth 100000 in
set_option maxHeartbeats 4000000 in
theorem goneC_any {W : World} {g1 : Nat} {on1 of1 : Option Nat} {old : T} {g2 : Nat} {on2 of2 : Option Nat} {now : T} (h1 : TreeAt W g1 on1 of1 old) (h2 : TreeAt W g2 on2 of2 now) (ht1 : Std old) (ht2 : Std now) (hx1 : old.nx ≤ 100000) (hx2 : now.nx ≤ 100000) (s : Pth.Bs) (hs : s.length ≤ 1000)
    (pn po : Nat) (cn : W.cell? ⟨pn, 0, none⟩ = some (.pointer (some ⟨g2, 0, none⟩))) (co : W.cell? ⟨po, 0, none⟩ = some (.pointer (some ⟨g1, 0, none⟩))) :
    Calls Tryz.prog 83 #[.string (bs s), .pointer (some ⟨pn, 0, none⟩), .pointer (some ⟨po, 0, none⟩)] W fun e w' => e = .returned (.bool (stays old now s)) ∧ Below W.heap.size W w' := by
  by_cases hz : now.links s = 0
  · have e : stays old now s = false := by unfold stays; rw [hz]; rfl
    rw [e]
    exact goneC_none h2 ht2 s hs hz pn po cn
  have e : stays old now s = (old.isDir s == now.isDir s) := by unfold stays; rw [decide_eq_true (by omega : 0 < now.links s)]; simp
  rw [e]
  have HA := Lib.hid (fun w' (hb : Below W.heap.size W w') => has_any (h2.below hb) ht2 s hs)
  rw [decide_eq_true (by omega : 0 < now.links s)] at HA
  have I1 := Lib.hid (fun w' (hb : Below W.heap.size W w') => isDirS_any (h1.below hb) ht1 hx1 s hs)
  have I2 := Lib.hid (fun w' (hb : Below W.heap.size W w') => isDirS_any (h2.below hb) ht2 hx2 s hs)
  obtain ⟨d1, hd1⟩ : ∃ d, d = old.isDir s := ⟨_, rfl⟩
  obtain ⟨d2, hd2⟩ : ∃ d, d = now.isDir s := ⟨_, rfl⟩
  rw [← hd1] at I1 ⊢
  rw [← hd2] at I2 ⊢
  have hln := World.block_lt_of_cell? W ⟨pn, 0, none⟩ cn
  have hlo := World.block_lt_of_cell? W ⟨po, 0, none⟩ co
  simp only at hln hlo
  have KC := Lib.hid (fun w' (hb : Below W.heap.size W w') => (show w'.cell? ⟨pn, 0, none⟩ = some (.pointer (some ⟨g2, 0, none⟩)) ∧ w'.cell? ⟨po, 0, none⟩ = some (.pointer (some ⟨g1, 0, none⟩)) ∧ Below W.heap.size W w' from ⟨(hb.cell (p := ⟨pn, 0, none⟩) hln).trans cn, (hb.cell (p := ⟨po, 0, none⟩) hlo).trans co, hb⟩))
  have bw := Below.refl W.heap.size W
  clear h1 h2 ht1 ht2 hx1 hx2 hz e hd1 hd2
  go_enter Tryz.func83, Tryz.ntmps83
  go_wp2_with fail
  refine wp_region_held_drew (S := fun w' => w'.cell? ⟨pn, 0, none⟩ = some (.pointer (some ⟨g2, 0, none⟩)) ∧ w'.cell? ⟨po, 0, none⟩ = some (.pointer (some ⟨g1, 0, none⟩)) ∧ Below W.heap.size W w') (by kernel_rfl) (KC.out _ (Below.drew bw)) (fun hHeld => ?_)
  refine wpAnyH_takeD (i := 0) (d := 5) (listed' := #[true, false, false, false, false, false, false, false, false, false, false, false, false]) (v := ?_) rfl (by kernel_rfl) (by kernel_rfl) (by kernel_rfl) (by kernel_rfl) (by kernel_rfl) (fun _ _ _ h => h) (Or.inl ⟨by kernel_rfl, ?_⟩) (by assumption) ?_; rotate_left; (focus (intro w hSw; (try dsimp only at hSw); go_simp; (try with_reducible rfl))); (try simp only [List.foldl_cons, List.foldl_nil, Act.put, List.setIfInBounds_toArray, List.set_cons_zero, List.set_cons_succ])
  refine wpAnyH_takeD (i := 1) (d := 6) (listed' := #[true, true, false, false, false, false, false, false, false, false, false, false, false]) (v := ?_) rfl (by kernel_rfl) (by kernel_rfl) (by kernel_rfl) (by kernel_rfl) (by kernel_rfl) (fun _ _ _ h => h) (Or.inl ⟨by kernel_rfl, ?_⟩) (by assumption) ?_; rotate_left; (focus (intro w hSw; (try dsimp only at hSw); go_simp; (try with_reducible rfl))); (try simp only [List.foldl_cons, List.foldl_nil, Act.put, List.setIfInBounds_toArray, List.set_cons_zero, List.set_cons_succ])
  refine wpAnyH_ready (rs := [2]) (by kernel_rfl) (by simp) ?_
  refine AllReadyH.cons rfl (fun K hK => ?_) AllReadyH.nil
  go_simp
  refine (HA.out _ (Below.drew bw)).mono ?_
  rintro e wt ⟨rfl, TT⟩
  have TB : Below W.heap.size W wt := thenB (Below.drew bw) TT
  refine hK.out _ _ (KC.out wt TB) (fun hHeld2 => ?_)
  clear hK K hHeld
  (try simp only [List.foldl_cons, List.foldl_nil, Act.put, List.setIfInBounds_toArray, List.set_cons_zero, List.set_cons_succ])
  refine wpAnyH_takeD (i := 3) (d := 8) (listed' := #[true, true, true, true, false, false, false, false, false, false, false, false, false]) (v := ?_) rfl (by kernel_rfl) (by kernel_rfl) (by kernel_rfl) (by kernel_rfl) (by kernel_rfl) (fun _ _ _ h => h) (Or.inl ⟨by kernel_rfl, ?_⟩) (by assumption) ?_; rotate_left; (focus (intro w hSw; (try dsimp only at hSw); go_simp; (try with_reducible rfl))); (try simp only [List.foldl_cons, List.foldl_nil, Act.put, List.setIfInBounds_toArray, List.set_cons_zero, List.set_cons_succ])
  refine wpAnyH_takeD (i := 4) (d := 9) (listed' := #[true, true, true, true, true, false, false, false, false, false, false, false, false]) (v := ?_) rfl (by kernel_rfl) (by kernel_rfl) (by kernel_rfl) (by kernel_rfl) (by kernel_rfl) (fun _ _ _ h => h) (Or.inl ⟨by kernel_rfl, ?_⟩) (by assumption) ?_; rotate_left; (focus (intro w hSw; (try dsimp only at hSw); go_simp; (try with_reducible rfl))); (try simp only [List.foldl_cons, List.foldl_nil, Act.put, List.setIfInBounds_toArray, List.set_cons_zero, List.set_cons_succ])
  refine wpAnyH_takeD (i := 5) (d := 10) (listed' := #[true, true, true, true, true, true, false, false, false, false, false, false, false]) (v := ?_) rfl (by kernel_rfl) (by kernel_rfl) (by kernel_rfl) (by kernel_rfl) (by kernel_rfl) (fun _ _ _ h => h) (Or.inl ⟨by kernel_rfl, ?_⟩) (by assumption) ?_; rotate_left; (focus (intro w hSw; (try dsimp only at hSw); go_simp; (try with_reducible rfl))); (try simp only [List.foldl_cons, List.foldl_nil, Act.put, List.setIfInBounds_toArray, List.set_cons_zero, List.set_cons_succ])
  refine wpAnyH_takeD (i := 7) (d := 12) (listed' := #[true, true, true, true, true, true, false, true, false, false, false, false, false]) (v := ?_) rfl (by kernel_rfl) (by kernel_rfl) (by kernel_rfl) (by kernel_rfl) (by kernel_rfl) (fun _ _ _ h => h) (Or.inl ⟨by kernel_rfl, ?_⟩) (by assumption) ?_; rotate_left; (focus (intro w hSw; (try dsimp only at hSw); go_simp; (try with_reducible rfl))); (try simp only [List.foldl_cons, List.foldl_nil, Act.put, List.setIfInBounds_toArray, List.set_cons_zero, List.set_cons_succ])
  refine wpAnyH_takeD (i := 8) (d := 13) (listed' := #[true, true, true, true, true, true, false, true, true, false, false, false, false]) (v := ?_) rfl (by kernel_rfl) (by kernel_rfl) (by kernel_rfl) (by kernel_rfl) (by kernel_rfl) (fun _ _ _ h => h) (Or.inl ⟨by kernel_rfl, ?_⟩) (by assumption) ?_; rotate_left; (focus (intro w hSw; (try dsimp only at hSw); go_simp; (try with_reducible rfl))); (try simp only [List.foldl_cons, List.foldl_nil, Act.put, List.setIfInBounds_toArray, List.set_cons_zero, List.set_cons_succ])
  refine wpAnyH_ready (rs := [6]) (by kernel_rfl) (by simp) ?_
  refine AllReadyH.cons rfl (fun K hK => ?_) AllReadyH.nil
  go_simp
  refine (I1.out _ TB).mono ?_
  rintro e wu ⟨rfl, TT⟩
  have TC : Below W.heap.size W wu := thenB TB TT
  refine hK.out _ _ (KC.out wu TC) (fun hHeld3 => ?_)
  clear hK K hHeld2
  (try simp only [List.foldl_cons, List.foldl_nil, Act.put, List.setIfInBounds_toArray, List.set_cons_zero, List.set_cons_succ])
  refine wpAnyH_ready (rs := [9]) (by kernel_rfl) (by simp) ?_
  refine AllReadyH.cons rfl (fun K hK => ?_) AllReadyH.nil
  go_simp
  refine (I2.out _ TC).mono ?_
  rintro e wv ⟨rfl, TT⟩
  have TD : Below W.heap.size W wv := thenB TC TT
  refine hK.out _ _ (KC.out wv TD) (fun hHeld4 => ?_)
  clear hK K hHeld3
  (try simp only [List.foldl_cons, List.foldl_nil, Act.put, List.setIfInBounds_toArray, List.set_cons_zero, List.set_cons_succ])
  refine wpAnyH_takeD (i := 10) (d := 15) (listed' := #[true, true, true, true, true, true, true, true, true, true, true, false, false]) (v := ?_) rfl (by kernel_rfl) (by kernel_rfl) (by kernel_rfl) (by kernel_rfl) (by kernel_rfl) (fun _ _ _ h => h) (Or.inl ⟨by kernel_rfl, ?_⟩) (by assumption) ?_; rotate_left; (focus (intro w hSw; (try dsimp only at hSw); go_simp; (try with_reducible rfl))); (try simp only [List.foldl_cons, List.foldl_nil, Act.put, List.setIfInBounds_toArray, List.set_cons_zero, List.set_cons_succ])
  refine wpAnyH_takeD (i := 11) (d := 16) (listed' := #[true, true, true, true, true, true, true, true, true, true, true, true, false]) (v := ?_) rfl (by kernel_rfl) (by kernel_rfl) (by kernel_rfl) (by kernel_rfl) (by kernel_rfl) (fun _ _ _ h => h) (Or.inl ⟨by kernel_rfl, ?_⟩) (by assumption) ?_; rotate_left; (focus (intro w hSw; (try dsimp only at hSw); go_simp; (try with_reducible rfl))); (try simp only [List.foldl_cons, List.foldl_nil, Act.put, List.setIfInBounds_toArray, List.set_cons_zero, List.set_cons_succ])
  refine wpAnyH_takeD (i := 12) (d := 4) (listed' := #[true, true, true, true, true, true, true, true, true, true, true, true, true]) (v := ?_) rfl (by kernel_rfl) (by kernel_rfl) (by kernel_rfl) (by kernel_rfl) (by kernel_rfl) (fun _ _ _ h => h) (Or.inl ⟨by kernel_rfl, ?_⟩) (by assumption) ?_; rotate_left; (focus (intro w hSw; (try dsimp only at hSw); go_simp; (try with_reducible rfl))); (try simp only [List.foldl_cons, List.foldl_nil, Act.put, List.setIfInBounds_toArray, List.set_cons_zero, List.set_cons_succ])
  refine wpAnyH_done (by kernel_rfl) ?_ _
  go_wp2_with fail
  go_ret
  exact ⟨rfl, TD⟩

end Go.Proofs.YtipajekehbpghaaGreatDoor

namespace Go.Proofs.YtipajekehbpghaaGreatDoor
open Go.RowKit

/-- The first one of which p holds. -/
def idxQ {α : Type} (p : α → Bool) (l : List α) : Int := match l.findIdx? p with | none => -1 | some i => i
theorem idxQ_hit {α : Type} {p : α → Bool} {l : List α} {i : Nat} (hi : i < l.length) (h : p l[i] = true) (ha : ∀ (j : Nat) (hj : j < l.length), j < i → p l[j] = false) : idxQ p l = i := by
  unfold idxQ
  rw [List.findIdx?_eq_some_iff_getElem.2 ⟨hi, h, fun j hj => by have := ha j (by omega) hj; simp [this]⟩]
theorem idxQ_miss {α : Type} {p : α → Bool} {l : List α} (ha : ∀ (j : Nat) (hj : j < l.length), p l[j] = false) : idxQ p l = -1 := by
  unfold idxQ
  rw [List.findIdx?_eq_none_iff.2 fun x hx => by
    obtain ⟨j, hj, rfl⟩ := List.getElem_of_mem hx
    exact ha j hj]
theorem idxQ_ways {α : Type} (p : α → Bool) (l : List α) : (idxQ p l = -1 ∧ ∀ x ∈ l, p x = false) ∨ ∃ i, ∃ hi : i < l.length, idxQ p l = (i : Nat) ∧ p l[i] = true ∧ ∀ x ∈ l.take i, p x = false := by
  unfold idxQ
  cases h : l.findIdx? p with
  | none => exact .inl ⟨rfl, fun x hx => by have := List.findIdx?_eq_none_iff.1 h x hx; simpa using this⟩
  | some i =>
    obtain ⟨hi, h1, h2⟩ := List.findIdx?_eq_some_iff_getElem.1 h
    refine .inr ⟨i, hi, rfl, h1, fun x hx => ?_⟩
    obtain ⟨j, hj, rfl⟩ := List.getElem_of_mem hx
    rw [List.length_take] at hj
    have := h2 j (by omega)
    rw [List.getElem_take]
    simpa using this
theorem keptQ_snoc {α : Type} (p : α → Bool) (l : List α) (j : Nat) (hj : j < l.length) : (l.take (j + 1)).filter (fun r => !p r) = (l.take j).filter (fun r => !p r) ++ (if p l[j] then [] else [l[j]]) := by
  rw [List.take_succ_eq_append_getElem hj, List.filter_append]
  congr 1
  cases h : p l[j] <;> simp [List.filter_cons, h]
theorem keptQ_le {α : Type} (p : α → Bool) (l : List α) (j : Nat) : ((l.take j).filter fun r => !p r).length ≤ j := by
  have := List.length_filter_le (fun r => !p r) (l.take j)
  rw [List.length_take] at this
  omega
theorem clear_row {P : Program} (w : World) (t e ty : TypeId) (z : Value) (ht : P.underlying t = some (.slice e)) (hv : ∀ w, (zeroValue e).run P w = .ok z w) (h1 : ∀ u ∈ z.cells.toList, u.oneCell' = true)
    (g o n c : Nat) (cur : Array Value) (T : TypeId) (hb : w.heap[g]? = some (.cells cur T (0, 0))) (hn : 0 < n) (hfit : o + n * z.cells.size ≤ cur.size) :
    ∃ cur' : Array Value, cur'.size = cur.size ∧ (∀ i, i < o → cur'[i]? = cur[i]?) ∧ (Builtin.clear_ #[t] ty #[.slice (some ⟨g, o, none⟩) n c]).run P w = .ok (.tuple #[]) (w.setRow g cur') := by
  have hzs := size_zeroCells z.cells n
  have hz1 : ∀ v ∈ (Builtin.zeroCells z.cells n).toList, v.oneCell' = true := fun v hv => by
    unfold Builtin.zeroCells at hv
    simp only [Array.toList_map, Array.toList_range, List.mem_map, List.mem_range] at hv
    obtain ⟨i, hi, rfl⟩ := hv
    have hp : 0 < z.cells.size := by
      rcases Nat.eq_zero_or_pos z.cells.size with h | h
      · rw [h] at hi; simp at hi
      · exact h
    have hlt : i % z.cells.size < z.cells.size := Nat.mod_lt _ hp
    refine h1 _ ?_
    rw [getElem!_pos z.cells _ hlt]
    simp
  have hst := run_storeCells_at P g o T (Builtin.zeroCells z.cells n).toList 0 cur w hb (by simp [hzs]; omega) hz1
  refine ⟨(cur.toList.take o ++ (Builtin.zeroCells z.cells n).toList ++ cur.toList.drop (o + (Builtin.zeroCells z.cells n).toList.length)).toArray, ?_, ?_, ?_⟩
  rotate_left 2
  · obtain ⟨m, rfl⟩ : ∃ m, n = m + 1 := ⟨n - 1, by omega⟩
    simp only [Nat.add_zero] at hst
    simp [Builtin.clear_, run_underlying ht, hv, hst]
  · simp [hzs]; omega
  · intro i hi
    have : i < cur.size := by omega
    simp [List.getElem?_append, List.getElem?_take, hi, Nat.min_eq_left, this]
    omega

set_option maxRecDepth 100000 in
set_option maxHeartbeats 2000000 in
theorem indexT_rows (l : List Pth.Bs) (b off c : Nat) (p : Pth.Bs → Bool) (g : Nat) (lb : Array Value) (eg : ∀ args w, (callFunc g args).run Tryz.prog w = .ok (.enter g args) w) (w : World) (hb : b < w.heap.size) (hrow : RowS w b off l) (hl : l.length ≤ 1000000)
    (hp : ∀ r ∈ l, ∀ w', Below w.heap.size w w' → Calls Tryz.prog g (#[.string (bs r)] ++ lb) w' fun e w'' => e = .returned (.bool (p r)) ∧ Below w'.heap.size w' w'') :
    Calls Tryz.prog 30 #[.slice (some ⟨b, off, none⟩) l.length c, .func (.func g) #[] lb] w fun e w' => e = .returned (.int .i64 (idxQ p l)) ∧ Below w.heap.size w w' := by
  have R := Lib.hid hrow
  have HP := Lib.hid hp
  have hli : (l.length : Int) ≤ 1000000 := by omega
  clear hrow hp
  go_enter Tryz.func30, Tryz.ntmps30
  go_wp2_with fail
  go_loopg [5, 8] (l.length) (fun gg _ iv wr => ∃ i : Nat, iv = .int .i64 i ∧ i ≤ l.length ∧ gg = l.length - i ∧ Below w.heap.size w wr ∧ Hid (∀ (j : Nat) (hj : j < l.length), j < i → p l[j] = false))
  case atStart => exact ⟨0, rfl, by omega, by omega, Below.refl _ _, Lib.hid (fun j hj h0 => absurd h0 (by omega))⟩
  case round =>
    obtain ⟨i, rfl, hi, hg, hbw, HN⟩ := hrel
    have HW := Lib.hid hbw
    have HG := Lib.hid hg
    clear hbw hg
    by_cases hil : i < l.length
    · have hii : (i : Int) < l.length := by omega
      have k0 := R.out i hil
      have hpp := HP.out l[i] (List.getElem_mem hil) wr HW.out
      obtain ⟨r, hrd⟩ : ∃ r, r = l[i] := ⟨_, rfl⟩
      rw [← hrd] at k0 hpp
      have d0 : wr.cell? ⟨b, off + i, none⟩ = some (.string (bs r)) := (HW.out.cell (p := ⟨b, off + i, none⟩) hb).trans k0
      obtain ⟨q, hq⟩ : ∃ q, q = p r := ⟨_, rfl⟩
      rw [← hq] at hpp
      have PP := Lib.hid hpp
      have HQ := Lib.hid (hq.trans (by rw [hrd]) : q = p l[i])
      clear k0 hrd hpp hq
      cases q
      · go_wp2_with (go_at_fn g; refine PP.out.mono ?_; rintro e w1 ⟨rfl, hb1⟩)
        have B1 := Lib.hid (thenB HW.out hb1)
        clear hb1
        go_wp2_with fail
        go_roundg (l.length - (i + 1))
        case measure => have := HG.out; omega
        case rel =>
          refine ⟨i + 1, by go_num, by omega, by omega, B1.out, Lib.hid (fun j hj h0 => ?_)⟩
          by_cases e : j = i
          · subst e; exact HQ.out.symm
          · exact HN.out j hj (by omega)
      · go_wp2_with (go_at_fn g; refine PP.out.mono ?_; rintro e w1 ⟨rfl, hb1⟩)
        have B1 := Lib.hid (thenB HW.out hb1)
        clear hb1
        go_wp2_with fail
        go_ret
        exact ⟨by rw [idxQ_hit hil HQ.out.symm HN.out]; rfl, B1.out⟩
    · have hii : (l.length : Int) ≤ i := by omega
      go_wp2_with fail
      go_ret
      exact ⟨by rw [idxQ_miss (fun j hj => HN.out j hj (by omega))]; rfl, HW.out⟩

/-- What the row holds on the way. -/
structure DInvT (p : Pth.Bs → Bool) (l : List Pth.Bs) (cr : Array Value) (n j : Nat) : Prop where
  size : cr.size = n
  fits : l.length ≤ n
  low : ∀ (m : Nat) (hm : m < ((l.take j).filter fun r => !p r).length), cr[m]? = some (.string (bs ((l.take j).filter fun r => !p r)[m]))
  high : ∀ (m : Nat) (hm : m < l.length), j ≤ m → cr[m]? = some (.string (bs l[m]))
theorem DInvT.skip {p : Pth.Bs → Bool} {l : List Pth.Bs} {cr : Array Value} {n j : Nat} (h : DInvT p l cr n j) (hj : j < l.length) (hp : p l[j] = true) : DInvT p l cr n (j + 1) := by
  have e : (l.take (j + 1)).filter (fun r => !p r) = (l.take j).filter (fun r => !p r) := by rw [keptQ_snoc p l j hj, hp]; simp
  refine ⟨h.size, h.fits, ?_, fun m hm h2 => h.high m hm (by omega)⟩
  rw [e]
  exact h.low
theorem DInvT.keep {p : Pth.Bs → Bool} {l : List Pth.Bs} {cr : Array Value} {n j : Nat} (h : DInvT p l cr n j) (hj : j < l.length) (hp : p l[j] = false) {i : Nat} (hi : i = ((l.take j).filter fun r => !p r).length) :
    DInvT p l (cr.setIfInBounds i (.string (bs l[j]))) n (j + 1) := by
  have hle := keptQ_le p l j
  have hs := h.size
  have hf := h.fits
  have e : (l.take (j + 1)).filter (fun r => !p r) = (l.take j).filter (fun r => !p r) ++ [l[j]] := by rw [keptQ_snoc p l j hj, hp]; simp
  refine ⟨by simpa using h.size, h.fits, ?_, fun m hm h2 => ?_⟩
  · rw [e]
    intro m hm
    rw [List.length_append, List.length_singleton] at hm
    by_cases hmi : m < i
    · have hm2 : m < ((l.take j).filter fun r => !p r).length := by omega
      have a := h.low m hm2
      rw [List.getElem_append_left hm2, ← a]
      simp only [Array.getElem?_setIfInBounds]
      rw [if_neg (by omega)]
    · obtain rfl : m = i := by omega
      have e2 : ((l.take j).filter (fun r => !p r) ++ [l[j]])[m]'(by rw [List.length_append, List.length_singleton]; omega) = l[j] := by
        rw [List.getElem_append_right (by omega)]; simp
      rw [e2]
      simp only [Array.getElem?_setIfInBounds]
      rw [if_pos trivial, if_pos (by omega)]
  · have a := h.high m hm (by omega)
    rw [← a]
    simp only [Array.getElem?_setIfInBounds]
    rw [if_neg (by omega)]
theorem DInvT.done {p : Pth.Bs → Bool} {l : List Pth.Bs} {cr cr' : Array Value} {n j : Nat} (h : DInvT p l cr n j) (hj : l.length ≤ j) (hcr : ∀ i, i < (l.filter fun r => !p r).length → cr'[i]? = cr[i]?) :
    ∀ (m : Nat) (hm : m < (l.filter fun r => !p r).length), cr'[m]? = some (.string (bs (l.filter fun r => !p r)[m])) := by
  have e : l.take j = l := List.take_of_length_le hj
  have hl := h.low
  rw [e] at hl
  intro m hm
  rw [hcr _ (by omega)]
  exact hl m hm
theorem DInvT.start {p : Pth.Bs → Bool} {l : List Pth.Bs} {cr : Array Value} {i : Nat} (hc : ∀ (m : Nat) (hm : m < l.length), cr[m]? = some (.string (bs l[m]))) (hf : l.length ≤ cr.size)
    (hi : i < l.length) (hp : p l[i] = true) (ha : ∀ x ∈ l.take i, p x = false) : DInvT p l cr cr.size (i + 1) ∧ ((l.take (i + 1)).filter fun r => !p r).length = i := by
  have e0 : (l.take i).filter (fun r => !p r) = l.take i := List.filter_eq_self.2 fun x hx => by rw [ha x hx]; rfl
  have e : (l.take (i + 1)).filter (fun r => !p r) = l.take i := by rw [keptQ_snoc p l i hi, hp, e0]; simp
  refine ⟨⟨rfl, hf, ?_, fun m hm _ => hc m hm⟩, ?_⟩
  · rw [e]
    intro m hm
    rw [List.length_take] at hm
    rw [List.getElem_take]
    exact hc m (by omega)
  · rw [e, List.length_take]; omega

set_option maxRecDepth 100000 in
set_option maxHeartbeats 4000000 in
theorem deleteT_rows (l : List Pth.Bs) (b c : Nat) (T : TypeId) (cur : Array Value) (p : Pth.Bs → Bool) (g : Nat) (lb : Array Value) (eg : ∀ args w, (callFunc g args).run Tryz.prog w = .ok (.enter g args) w) (w : World)
    (hblk : Blk w b T cur) (hrow : RowS w b 0 l) (hf : l.length ≤ cur.size) (hl : l.length ≤ 1000000) (hlc : l.length ≤ c) (hc : c ≤ 9223372036854775807)
    (hp : ∀ r ∈ l, ∀ w', w.grownBy w' (some b) → Calls Tryz.prog g (#[.string (bs r)] ++ lb) w' fun e w'' => e = .returned (.bool (p r)) ∧ Below w'.heap.size w' w'') :
    Calls Tryz.prog 82 #[.slice (some ⟨b, 0, none⟩) l.length c, .func (.func g) #[] lb] w fun e w' => e = .returned (.slice (some ⟨b, 0, none⟩) (l.filter fun r => !p r).length c) ∧ (∃ cur', Blk w' b T cur' ∧ cur'.size = cur.size) ∧ RowS w' b 0 (l.filter fun r => !p r) ∧ w.grownBy w' (some b) := by
  have hblt := hblk.lt
  have hix := indexT_rows l b 0 c p g lb eg w hblt hrow hl (fun r hr w' h => hp r hr w' (only_of_below h _))
  have HIX := Lib.hid hix
  have hli : (l.length : Int) ≤ 1000000 := by omega
  have hcI : (c : Int) ≤ 9223372036854775807 := by omega
  have hlcI : (l.length : Int) ≤ c := by omega
  rcases idxQ_ways p l with ⟨e1, hall⟩ | ⟨i0, hi0, e1, ht, hall⟩
  · have HB := Lib.hid hblk
    have HR := Lib.hid hrow
    have hfil : (l.filter fun r => !p r) = l := List.filter_eq_self.2 fun x hx => by rw [hall x hx]; rfl
    rw [hfil]
    rw [e1] at HIX
    clear hix hblk hrow hp hall e1 hfil
    go_enter Tryz.func82, Tryz.ntmps82
    go_wp2_with fail
    refine HIX.out.mono ?_
    rintro e w1 ⟨rfl, h1⟩
    have B1 := Lib.hid h1
    clear h1
    go_wp2_with fail
    go_ret
    exact ⟨rfl, ⟨cur, HB.out.below B1.out hblt, rfl⟩, HR.out.below B1.out hblt, only_of_below B1.out _⟩
  · rw [e1] at HIX
    have hcells : ∀ (m : Nat) (hm : m < l.length), cur[m]? = some (.string (bs l[m])) := fun m hm => by
      have c0 := hrow m hm
      rw [Nat.zero_add, hblk.cell] at c0
      exact c0
    obtain ⟨hD, hDl⟩ := DInvT.start hcells hf hi0 ht hall
    have HD := Lib.hid hD
    have HDL := Lib.hid hDl
    have HB := Lib.hid hblk
    have HP := Lib.hid hp
    have hi0I : (i0 : Int) < l.length := by omega
    have hne1 : ((i0 : Int) == -1) = false := beq_eq_false_iff_ne.2 (by omega)
    have HF := Lib.hid hf
    have hz : ∀ w, (zeroValue 9).run Tryz.prog w = .ok (.string ⟨#[]⟩) w := fun w => by kernel_rfl
    have HZ := Lib.hid hz
    clear hix hblk hrow hp hall e1 hcells hD hDl ht hf hz
    go_enter Tryz.func82, Tryz.ntmps82
    go_wp2_with fail
    refine HIX.out.mono ?_
    rintro e w1 ⟨rfl, h1⟩
    have G1 := Lib.hid (only_of_below h1 (some b))
    have K1 := Lib.hid (HB.out.below h1 hblt)
    clear h1
    go_wp2_with fail
    go_loopg [5, 6, 7] (l.length - (i0 + 1)) (fun gg iv jv _ wr => ∃ (i j : Nat) (cr : Array Value), iv = .int .i64 i ∧ jv = .int .i64 j ∧ j ≤ l.length ∧ i < j ∧ gg = l.length - j ∧ w.grownBy wr (some b) ∧ Blk wr b T cr ∧ Hid (DInvT p l cr cur.size j) ∧ Hid (i = ((l.take j).filter fun r => !p r).length))
    case atStart => exact ⟨i0, i0 + 1, cur, rfl, by go_num, by omega, by omega, rfl, G1.out, K1.out, HD, Lib.hid HDL.out.symm⟩
    case round =>
      obtain ⟨i, j, cr, rfl, rfl, hj, hij, hgg, hgw, hbl, HI, HL⟩ := hrel
      have HG := Lib.hid hgg
      have HW := Lib.hid hgw
      have HK := Lib.hid hbl
      have hwz := hgw.size
      clear hgg hgw hbl
      have hiI : (i : Int) < j := by omega
      have hjI : (j : Int) ≤ 1000000 := by omega
      by_cases hlt : j < l.length
      · have hltI : (j : Int) < l.length := by omega
        have k0 := HI.out.high j hlt (Nat.le_refl _)
        have hsz := HI.out.size
        have hft := HI.out.fits
        have d0 : wr.cell? ⟨b, j, none⟩ = some (.string (bs l[j])) := (HK.out.cell _).trans k0
        have hpp := HP.out l[j] (List.getElem_mem hlt) wr HW.out
        have HSK := Lib.hid (fun (h : p l[j] = true) => HI.out.skip hlt h)
        have HKE := Lib.hid (fun (h : p l[j] = false) => HI.out.keep hlt h HL.out)
        have HKS := Lib.hid (keptQ_snoc p l j hlt)
        obtain ⟨r, hrd⟩ : ∃ r, r = l[j] := ⟨_, rfl⟩
        rw [← hrd] at d0 hpp HSK HKE HKS
        obtain ⟨q, hq⟩ : ∃ q, q = p r := ⟨_, rfl⟩
        rw [← hq] at hpp
        have PP := Lib.hid hpp
        have HQ := Lib.hid hq
        have x0 : ∃ v0, cr[i]? = some v0 := ⟨_, Array.getElem?_eq_getElem (by omega)⟩
        obtain ⟨v0, x0⟩ := x0
        have X0 := Lib.hid x0
        have hbw := HK.out.lt
        clear k0 hrd hpp hq x0 hsz hft
        cases q
        · go_wp2_with (go_at_fn g; refine PP.out.mono ?_; rintro e w2 ⟨rfl, hb2⟩; have hb2s : wr.heap.size ≤ w2.heap.size := hb2.size; have KK := HK.out.below hb2 hbw; have G2 := Lib.hid (only_trans HW.out (only_of_below hb2 (some b))); have s0 : w2.cell? ⟨b, i, none⟩ = some v0 := (KK.cell _).trans X0.out; have f0 := KK.frozen i; have K2 := Lib.hid KK; clear hb2 KK)
          go_roundg (l.length - (j + 1))
          case measure => have := HG.out; omega
          case rel =>
            refine ⟨i + 1, j + 1, _, by go_num, by go_num, by omega, by omega, rfl, only_setCell G2.out (.inl rfl) _, K2.out.set_ i _, Lib.hid (HKE.out HQ.out.symm), Lib.hid ?_⟩
            rw [HKS.out, ← HQ.out, HL.out]
            simp
        · go_wp2_with (go_at_fn g; refine PP.out.mono ?_; rintro e w2 ⟨rfl, hb2⟩)
          have hb2s : wr.heap.size ≤ w2.heap.size := hb2.size
          have G2 := Lib.hid (only_trans HW.out (only_of_below hb2 (some b)))
          have K2 := Lib.hid (HK.out.below hb2 hbw)
          clear hb2
          go_wp2_with fail
          go_roundg (l.length - (j + 1))
          case measure => have := HG.out; omega
          case rel =>
            refine ⟨i, j + 1, cr, rfl, by go_num, by omega, by omega, rfl, G2.out, K2.out, Lib.hid (HSK.out HQ.out.symm), Lib.hid ?_⟩
            rw [HKS.out, ← HQ.out, HL.out]
            simp
      · obtain rfl : j = l.length := by omega
        have hltI : ¬ (l.length : Int) < (l.length : Int) := by omega
        have hsz := HI.out.size
        have hft := HI.out.fits
        obtain ⟨cr', hs', hlow, hclr⟩ := clear_row (P := Tryz.prog) wr 28 9 0 _ Tryz.underlying28 HZ.out (by intro u hu; simp [Value.cells] at hu; rw [hu]; rfl) b i (l.length - i) (c - i) cr T HK.out (by omega) (by rw [show (Value.string ⟨#[]⟩ : Value).cells.size = 1 from rfl]; omega)
        have HLW := Lib.hid hlow
        have HS' := Lib.hid hs'
        have HSZ := Lib.hid hsz
        clear hsz hft hlow hs'
        go_wp2_with fail
        go_ret
        have hL := HL.out
        rw [List.take_length] at hL
        have hblk' : Blk (wr.setRow b cr') b T cr' := HK.out.row cr'
        refine ⟨by rw [hL]; rfl, ⟨cr', hblk', by rw [HS'.out, HSZ.out]⟩, fun m hm => ?_, only_setRow HW.out (.inl rfl) _⟩
        have := HI.out.done (Nat.le_refl _) (cr' := cr') (fun i' h => HLW.out i' (by omega)) m hm
        rw [Nat.zero_add, hblk'.cell]
        exact this

/-- slices.DeleteFunc at texts of the call's own. -/
theorem deleteT_any {w : World} {B : Nat} {v : Value} {l : List Pth.Bs} (h : HasT w B v l) (p : Pth.Bs → Bool) (g : Nat) (lb : Array Value) (eg : ∀ args w, (callFunc g args).run Tryz.prog w = .ok (.enter g args) w) (hl : l.length ≤ 1000)
    (hp : ∀ r ∈ l, ∀ w', w.grownBy w' v.ownBlock → Calls Tryz.prog g (#[.string (bs r)] ++ lb) w' fun e w'' => e = .returned (.bool (p r)) ∧ Below w'.heap.size w' w'') :
    Calls Tryz.prog 82 #[v, .func (.func g) #[] lb] w fun e w' => ∃ v', e = .returned v' ∧ HasT w' B v' (l.filter fun r => !p r) ∧ w.grownBy w' v.ownBlock := by
  obtain ⟨h1, hw⟩ := id h
  rcases hw with ⟨rfl, h0⟩ | ⟨b, c, cur, rfl, hB, hg, hc, hcm, hcs, ht⟩
  · obtain rfl := List.length_eq_zero_iff.1 h0
    exact (deleteT_none (B := 0) (HasS.nil w 0 none 0) (by simp) g lb eg (fun s hs => by cases hs)).mono fun e w' ⟨he, hw⟩ => ⟨_, he, (show HasT w' B (.slice none 0 0) [] from World.ownsRow_nil _ _ _ _), only_of_below hw _⟩
  · have hrow : RowS w b 0 l := by
      rcases h.ways with ⟨h0, _⟩ | ⟨g', c', _, e', _, _, _, _, _, _, hr⟩
      · cases h0
      · cases e'; exact hr
    refine (deleteT_rows l b c _ cur p g lb eg w hg hrow (by omega) (by omega) hc (by unfold maxLen at hcm; exact hcm) hp).mono fun e w' ⟨he, ⟨cur', hb', hs'⟩, hr', hg'⟩ => ⟨_, he, ?_, hg'⟩
    have hle : (l.filter fun r => !p r).length ≤ l.length := List.length_filter_le _ _
    have htl : (txCells (l.filter fun r => !p r)).length = (l.filter fun r => !p r).length := txCells_len _
    generalize hF : (l.filter fun r => !p r) = F at hle htl hb' hr' ⊢
    refine ⟨by rw [htl, Nat.mul_one], .inr ⟨b, c, cur', rfl, hB, hb', by omega, hcm, by rw [hs', hcs], ?_⟩⟩
    apply List.ext_getElem?
    intro i
    rw [Nat.mul_one]
    by_cases hi : i < F.length
    · rw [List.getElem?_take, if_pos hi, Array.getElem?_toList, ← hb'.cell]
      have c1 := hr' i hi
      rw [Nat.zero_add] at c1
      rw [c1, txCells_get _ i hi]
    · rw [List.getElem?_eq_none (by rw [List.length_take]; omega), List.getElem?_eq_none (by rw [htl]; omega)]

end Go.Proofs.YtipajekehbpghaaGreatDoor

namespace Go.Proofs.YtipajekehbpghaaGreatDoor
open Go.RowKit Go.Maps Tre Pk

theorem below_ofO {B : Nat} {a w w' : World} {row : Option Nat} (h : Below B a w) (k : w.grownBy w' row) (hB : B ≤ w.heap.size) (hr : ∀ g, row = some g → B ≤ g) : Below B a w' := by
  cases row with
  | none => exact below_of_only h (k.but (some B)) hB (Nat.le_refl _)
  | some g => exact below_of_only h k hB (hr g rfl)
theorem HasT.own_le {w : World} {B : Nat} {v : Value} {l : List (List UInt8)} (h : HasT w B v l) : ∀ g, v.ownBlock = some g → B ≤ g := by
  intro g hg
  rcases h.ways with ⟨rfl, _⟩ | ⟨g', c, cur, rfl, h1, _⟩
  · cases hg
  · have e : g' = g := by
      have e2 : (Value.slice (some ⟨g', 0, none⟩) l.length c).ownBlock = some g' := rfl
      rw [e2] at hg
      cases hg
      rfl
    omega

set_option maxRecDepth 100000 in
set_option maxHeartbeats 4000000 in
theorem gone_any {w : World} {g1 : Nat} {on1 of1 : Option Nat} {old : T} {g2 : Nat} {on2 of2 : Option Nat} {now : T} (hm : ML w) (h1 : TreeAt w g1 on1 of1 old) (h2 : TreeAt w g2 on2 of2 now) (ht1 : Std old) (ht2 : Std now) (hx1 : old.nx ≤ 100000) (hx2 : now.nx ≤ 100000) :
    Calls Tryz.prog 37 #[.pointer (some ⟨g1, 0, none⟩), .pointer (some ⟨g2, 0, none⟩)] w fun e w' => ∃ v, e = .returned v ∧ HasS w' w.heap.size v (gone old now) ∧ Below w.heap.size w w' := by
  obtain ⟨W, hW⟩ : ∃ W, W = (w.alloc (.cells #[.pointer (some ⟨g1, 0, none⟩)] 24)).alloc (.cells #[.pointer (some ⟨g2, 0, none⟩)] 24) := ⟨_, rfl⟩
  have HB0 := Lib.hid (show Below w.heap.size w W by rw [hW]; exact ((Below.refl _ _).alloc (Nat.le_refl _) _).alloc (by simp) _)
  have hWs : W.heap.size = w.heap.size + 2 := by rw [hW]; simp
  have K1 := Lib.hid (show Blk W w.heap.size 24 #[.pointer (some ⟨g1, 0, none⟩)] by rw [hW]; exact (Blk.new w 24 _).alloc _)
  have K2 := Lib.hid (show Blk W (w.heap.size + 1) 24 #[.pointer (some ⟨g2, 0, none⟩)] by
    have := Blk.new (w.alloc (.cells #[.pointer (some ⟨g1, 0, none⟩)] 24)) 24 #[.pointer (some ⟨g2, 0, none⟩)]
    rw [show (w.alloc (.cells #[.pointer (some ⟨g1, 0, none⟩)] 24)).heap.size = w.heap.size + 1 by simp] at this
    rw [hW]; exact this)
  have T1 := Lib.hid (h1.below HB0.out)
  have T2 := Lib.hid (h2.below HB0.out)
  have HM := Lib.hid (hm.below HB0.out)
  have hln : old.names.length ≤ 60 := by rw [names_len]; exact ht1.cn
  have HSL := Lib.hid (fun s (hs : s ∈ old.names) => (show s.length ≤ 1000 from by obtain ⟨_, _, hr, _⟩ := ht1.name hs; have := (right_len hr).1; omega))
  have NM := Lib.hid (names_any T1.out ht1 HM.out)
  have DE := Lib.hid (fun w3 v (hb : Below W.heap.size W w3) (hv : HasT w3 W.heap.size v old.names) => deleteT_any hv (stays old now) 83 #[.pointer (some ⟨w.heap.size + 1, 0, none⟩), .pointer (some ⟨w.heap.size, 0, none⟩)] (fun args w => by go_simp) (by omega) (fun s hs w' hg' => by
    have hb2 := below_ofO hb hg' hb.size hv.own_le
    have := goneC_any (W := w') (T1.out.below hb2) (T2.out.below hb2) ht1 ht2 hx1 hx2 s (HSL.out s hs) (w.heap.size + 1) w.heap.size ((K2.out.below hb2 (by omega)).cell 0) ((K1.out.below hb2 (by omega)).cell 0)
    exact this))
  obtain ⟨N, hN⟩ : ∃ N, N = old.names := ⟨_, rfl⟩
  obtain ⟨G, hG⟩ : ∃ G, G = old.names.filter fun s => !(stays old now s) := ⟨_, rfl⟩
  have hgl : G.length ≤ 60 := by rw [hG]; exact Nat.le_trans (List.length_filter_le _ _) hln
  rw [show gone old now = G.reverse by rw [hG]; rfl]
  rw [← hG] at DE
  rw [← hN] at NM DE
  have HW := Lib.hid hW
  have c1 : W.cell? ⟨w.heap.size, 0, none⟩ = some (.pointer (some ⟨g1, 0, none⟩)) := K1.out.cell 0
  have l1 := K1.out.lt
  clear hm h1 h2 ht1 ht2 hx1 hx2 hW hN hG
  go_enter Tryz.func37, Tryz.ntmps37
  go_wp2_with fail
  rw [← HW.out]
  clear HW
  go_wp2_with fail
  refine NM.out.mono ?_
  rintro e w3 ⟨v3, rfl, hv3, h3⟩
  have B3 := Lib.hid h3
  have DD := Lib.hid (DE.out w3 v3 h3 hv3)
  have V3 := Lib.hid hv3
  clear hv3 h3 NM DE c1 l1
  go_wp2_with fail
  refine DD.out.mono ?_
  rintro e w4 ⟨v4, rfl, hv4, g4⟩
  have B4 := Lib.hid (below_ofO B3.out g4 B3.out.size V3.out.own_le)
  have RV := Lib.hid (reverse_any hv4 (by omega))
  obtain ⟨Y4, c4, rfl, _⟩ := hv4.form
  clear g4 hv4 DD
  go_wp2_with fail
  refine RV.out.mono ?_
  rintro e w5 ⟨rfl, hv5, h5⟩
  have B5 := Lib.hid (show Below w.heap.size w w5 from (thenB HB0.out B4.out).trans (h5.mono (by omega)))
  have V5 := Lib.hid (hv5.mono (C := w.heap.size) (show w.heap.size ≤ W.heap.size by omega))
  clear hv5 h5 RV
  go_wp2_with fail
  go_ret
  exact ⟨_, rfl, V5.out, B5.out⟩

end Go.Proofs.YtipajekehbpghaaGreatDoor

namespace Go.Proofs.YtipajekehbpghaaGreatDoor
open Go.RowKit Go.Maps Tre Pk

set_option maxRecDepth 100000 in
set_option maxHeartbeats 4000000 in
theorem likeC_any {W : World} {g1 : Nat} {on1 of1 : Option Nat} {old : T} {g2 : Nat} {on2 of2 : Option Nat} {now : T} (h1 : TreeAt W g1 on1 of1 old) (h2 : TreeAt W g2 on2 of2 now) (x s : Pth.Bs) (hx : x.length ≤ 1000) (hs : s.length ≤ 1000)
    (po pq pn : Nat) (co : W.cell? ⟨po, 0, none⟩ = some (.pointer (some ⟨g1, 0, none⟩))) (cs : W.cell? ⟨pq, 0, none⟩ = some (.string (bs s))) (cn : W.cell? ⟨pn, 0, none⟩ = some (.pointer (some ⟨g2, 0, none⟩))) :
    Calls Tryz.prog 78 #[.string (bs x), .pointer (some ⟨po, 0, none⟩), .pointer (some ⟨pq, 0, none⟩), .pointer (some ⟨pn, 0, none⟩)] W fun e w' => e = .returned (.bool (old.alike s x != now.alike s x)) ∧ Below W.heap.size W w' := by
  have A1 := Lib.hid (fun k => alike_any (h1.below (below_drewN (Below.refl _ _) k)) (bs s) (bs x) (by rw [bs_size]; omega) (by rw [bs_size]; omega))
  have A2 := Lib.hid (fun k => alike_any (h2.below (below_drewN (Below.refl _ _) k)) (bs s) (bs x) (by rw [bs_size]; omega) (by rw [bs_size]; omega))
  rw [bs_list, bs_list] at A1 A2
  obtain ⟨d1, hd1⟩ : ∃ d, d = old.alike s x := ⟨_, rfl⟩
  obtain ⟨d2, hd2⟩ : ∃ d, d = now.alike s x := ⟨_, rfl⟩
  rw [← hd1] at A1 ⊢
  rw [← hd2] at A2 ⊢
  have lo := World.block_lt_of_cell? W ⟨po, 0, none⟩ co
  have ls := World.block_lt_of_cell? W ⟨pq, 0, none⟩ cs
  have ln := World.block_lt_of_cell? W ⟨pn, 0, none⟩ cn
  simp only at lo ls ln
  clear h1 h2 hd1 hd2
  go_enter Tryz.func78, Tryz.ntmps78
  go_wp2_with fail
  go_quiet ((go_at_call 32; first | with_reducible exact Calls.quiet_of_same (A1.out _) | with_reducible exact Calls.quiet_of_same (A2.out _)))
  go_wp2_with fail
  go_ret
  exact ⟨rfl, below_drewN (Below.refl _ _) _⟩

/-- slices.ContainsFunc at texts. -/
theorem contT_any (l : List Pth.Bs) (b off c : Nat) (p : Pth.Bs → Bool) (g : Nat) (lb : Array Value) (eg : ∀ args w, (callFunc g args).run Tryz.prog w = .ok (.enter g args) w) (w : World) (hb : b < w.heap.size) (hrow : RowS w b off l) (hl : l.length ≤ 1000000)
    (hp : ∀ r ∈ l, ∀ w', Below w.heap.size w w' → Calls Tryz.prog g (#[.string (bs r)] ++ lb) w' fun e w'' => e = .returned (.bool (p r)) ∧ Below w'.heap.size w' w'') :
    Calls Tryz.prog 77 #[.slice (some ⟨b, off, none⟩) l.length c, .func (.func g) #[] lb] w fun e w' => e = .returned (.bool (l.any p)) ∧ Below w.heap.size w w' := by
  have IX := Lib.hid (indexT_rows l b off c p g lb eg w hb hrow hl hp)
  have hi : decide ((0 : Int) ≤ idxQ p l) = l.any p := by
    rcases idxQ_ways p l with ⟨e, h⟩ | ⟨i, hi, e, h, _⟩
    · rw [e, List.any_eq_false.2 (fun x hx => by rw [h x hx]; simp)]; rfl
    · rw [e, List.any_eq_true.2 ⟨l[i], List.getElem_mem hi, h⟩]; simp
  obtain ⟨z, hz⟩ : ∃ z, z = idxQ p l := ⟨_, rfl⟩
  rw [← hz] at IX hi
  rw [← hi]
  clear hrow hp hi hz
  go_enter Tryz.func77, Tryz.ntmps77
  go_wp2_with fail
  refine IX.out.mono ?_
  rintro e w1 ⟨rfl, h1⟩
  have B1 := Lib.hid h1
  clear h1
  go_wp2_with fail
  go_ret
  exact ⟨rfl, B1.out⟩

set_option maxRecDepth 100000 in
set_option maxHeartbeats 4000000 in
theorem likeIn_any {w : World} {g1 : Nat} {on1 of1 : Option Nat} {old : T} {g2 : Nat} {on2 of2 : Option Nat} {now : T} (h1 : TreeAt w g1 on1 of1 old) (h2 : TreeAt w g2 on2 of2 now) (s : Pth.Bs) (hs : s.length ≤ 1000)
    (pb po pn b c : Nat) (hall : ∀ x ∈ old.names ++ now.names, x.length ≤ 1000) (hl : (old.names ++ now.names).length ≤ 1000) (hb : b < w.heap.size) (hrow : RowS w b 0 (old.names ++ now.names))
    (cb : w.cell? ⟨pb, 0, none⟩ = some (.slice (some ⟨b, 0, none⟩) (old.names ++ now.names).length c)) (co : w.cell? ⟨po, 0, none⟩ = some (.pointer (some ⟨g1, 0, none⟩))) (cn : w.cell? ⟨pn, 0, none⟩ = some (.pointer (some ⟨g2, 0, none⟩))) :
    Calls Tryz.prog 76 #[.string (bs s), .pointer (some ⟨pb, 0, none⟩), .pointer (some ⟨po, 0, none⟩), .pointer (some ⟨pn, 0, none⟩)] w fun e w' => e = .returned (.bool (likeIn old now s)) ∧ Below w.heap.size w w' := by
  obtain ⟨W, hW⟩ : ∃ W, W = w.alloc (.cells #[.string (bs s)] 9) := ⟨_, rfl⟩
  have HB0 := Lib.hid (show Below w.heap.size w W by rw [hW]; exact (Below.refl _ _).alloc (Nat.le_refl _) _)
  have KE := Lib.hid (show Blk W w.heap.size 9 #[.string (bs s)] by rw [hW]; exact Blk.new w 9 _)
  have lb := World.block_lt_of_cell? w ⟨pb, 0, none⟩ cb
  have lo := World.block_lt_of_cell? w ⟨po, 0, none⟩ co
  have ln := World.block_lt_of_cell? w ⟨pn, 0, none⟩ cn
  simp only at lb lo ln
  have CO : W.cell? ⟨po, 0, none⟩ = some (.pointer (some ⟨g1, 0, none⟩)) := (HB0.out.cell (p := ⟨po, 0, none⟩) lo).trans co
  have CN : W.cell? ⟨pn, 0, none⟩ = some (.pointer (some ⟨g2, 0, none⟩)) := (HB0.out.cell (p := ⟨pn, 0, none⟩) ln).trans cn
  have cB : W.cell? ⟨pb, 0, none⟩ = some (.slice (some ⟨b, 0, none⟩) (old.names ++ now.names).length c) := (HB0.out.cell (p := ⟨pb, 0, none⟩) lb).trans cb
  have lB := World.block_lt_of_cell? W ⟨pb, 0, none⟩ cB
  have lO := World.block_lt_of_cell? W ⟨po, 0, none⟩ CO
  have lN := World.block_lt_of_cell? W ⟨pn, 0, none⟩ CN
  simp only at lB lO lN
  have CT := Lib.hid (contT_any (old.names ++ now.names) b 0 c (fun x => old.alike s x != now.alike s x) 78 #[.pointer (some ⟨po, 0, none⟩), .pointer (some ⟨w.heap.size, 0, none⟩), .pointer (some ⟨pn, 0, none⟩)] (fun args w => by go_simp) W (Nat.lt_of_lt_of_le hb HB0.out.size) (hrow.below HB0.out hb) (by omega) (fun x hx w' hb' => by
    have hb2 := thenB HB0.out hb'
    exact likeC_any (h1.below hb2) (h2.below hb2) x s (hall x hx) hs po w.heap.size pn ((hb'.cell (p := ⟨po, 0, none⟩) lO).trans CO) ((KE.out.below hb' KE.out.lt).cell 0) ((hb'.cell (p := ⟨pn, 0, none⟩) lN).trans CN)))
  have e : likeIn old now s = !((old.names ++ now.names).any fun x => old.alike s x != now.alike s x) := rfl
  rw [e]
  obtain ⟨d, hd⟩ : ∃ d, d = ((old.names ++ now.names).any fun x => old.alike s x != now.alike s x) := ⟨_, rfl⟩
  rw [← hd] at CT ⊢
  obtain ⟨n, hn⟩ : ∃ n, n = (old.names ++ now.names).length := ⟨_, rfl⟩
  rw [← hn] at CT cB
  have HW := Lib.hid hW
  clear h1 h2 hall hl hrow cb co cn hd hn CO CN hW e
  go_enter Tryz.func76, Tryz.ntmps76
  repeat' ((fail_if_success (with_reducible refine halt_at 1 ?_)); first | go_values | go_skip | go_guarded | go_step | go_upon | go_back | (simp only [Int.not_lt, Int.not_le] at *; go_simp) | (go_values <;> (try go_simp)) | (go_ite <;> go_prune <;> (try go_simp)) | (split <;> (first | (rename_i hx; exact (hx _ rfl).elim) | go_prune)))
  rw [← HW.out]
  clear HW
  go_wp2_with fail
  refine CT.out.mono ?_
  rintro e w1 ⟨rfl, h1⟩
  have B1 := Lib.hid (thenB HB0.out h1)
  clear h1
  go_wp2_with fail
  go_ret
  exact ⟨rfl, B1.out⟩

end Go.Proofs.YtipajekehbpghaaGreatDoor

namespace Go.Proofs.YtipajekehbpghaaGreatDoor
open Go.RowKit Go.Maps Tre Pk

theorem getV_at (t : T) (s : Pth.Bs) : ∃ v, getV t s = .tuple #[ndv (nodeAt t s), v] := by
  cases h : Tre.look t.ents s with
  | none => exact ⟨_, by rw [getV_none h, show nodeAt t s = Tre.zero by unfold nodeAt T.get; rw [h]; rfl]⟩
  | some k => exact ⟨_, by rw [getV_of h, nodeAt_of h]⟩
theorem nodeB_dec (a b : Nd) : nodeB a b = decide (a = b) := by
  by_cases h : a = b
  · rw [decide_eq_true h, (nodeB_iff a b).2 h]
  · rw [decide_eq_false h]
    cases h2 : nodeB a b
    · rfl
    · exact absurd ((nodeB_iff a b).1 h2) h

set_option maxRecDepth 100000 in
set_option maxHeartbeats 4000000 in
theorem changedC_any {w : World} {g1 : Nat} {on1 of1 : Option Nat} {old : T} {g2 : Nat} {on2 of2 : Option Nat} {now : T} (h1 : TreeAt w g1 on1 of1 old) (h2 : TreeAt w g2 on2 of2 now) (ht1 : Std old) (hx1 : old.nx ≤ 100000) (ht2 : Std now) (hx2 : now.nx ≤ 100000)
    (e : Ent) (mv : Value) (hn : e.name.length ≤ 1000) (po pn pa pb qo qn : Nat) (co : w.cell? ⟨po, 0, none⟩ = some (.pointer (some ⟨g1, 0, none⟩))) (cn : w.cell? ⟨pn, 0, none⟩ = some (.pointer (some ⟨g2, 0, none⟩)))
    (ca : w.cell? ⟨pa, 0, none⟩ = some (.func (.func 76) #[] #[.pointer (some ⟨pb, 0, none⟩), .pointer (some ⟨qo, 0, none⟩), .pointer (some ⟨qn, 0, none⟩)]))
    (ak : ∀ w', Below w.heap.size w w' → Calls Tryz.prog 76 #[.string (bs e.name), .pointer (some ⟨pb, 0, none⟩), .pointer (some ⟨qo, 0, none⟩), .pointer (some ⟨qn, 0, none⟩)] w' fun r w'' => r = .returned (.bool (likeIn old now e.name)) ∧ Below w'.heap.size w' w'') :
    Calls Tryz.prog 80 #[ev e mv, .pointer (some ⟨po, 0, none⟩), .pointer (some ⟨pn, 0, none⟩), .pointer (some ⟨pa, 0, none⟩)] w fun r w' => r = .returned (.bool (held old now e)) ∧ Below w.heap.size w w' := by
  cases hl : Tre.look old.ents e.name with
  | none =>
    rw [show held old now e = false by unfold held T.get; rw [hl]; rfl]
    exact changedC_none h1 h2 ht2 hx2 e mv hn hl po pn pa co cn
  | some k1 =>
  obtain ⟨W, hW⟩ : ∃ W, W = w.alloc (.cells #[.string (bs e.name), .int .u8 e.kind, .int .i64 e.mode, .int .i64 e.uid, .int .i64 e.gid, .int .i64 e.size, .int .i64 e.sec, .int .i64 e.nano, .string (bs e.link), .string (bs e.user), .string (bs e.group), .int .i64 e.major, .int .i64 e.minor, .string (bs e.data), mv] 40) := ⟨_, rfl⟩
  have HB0 := Lib.hid (show Below w.heap.size w W by rw [hW]; exact (Below.refl _ _).alloc (Nat.le_refl _) _)
  have KE := Lib.hid (show Blk W w.heap.size 40 #[.string (bs e.name), .int .u8 e.kind, .int .i64 e.mode, .int .i64 e.uid, .int .i64 e.gid, .int .i64 e.size, .int .i64 e.sec, .int .i64 e.nano, .string (bs e.link), .string (bs e.user), .string (bs e.group), .int .i64 e.major, .int .i64 e.minor, .string (bs e.data), mv] by rw [hW]; exact Blk.new w 40 _)
  have HW := Lib.hid hW
  have lo := World.block_lt_of_cell? w ⟨po, 0, none⟩ co
  have ln := World.block_lt_of_cell? w ⟨pn, 0, none⟩ cn
  have la := World.block_lt_of_cell? w ⟨pa, 0, none⟩ ca
  simp only at lo ln la
  have CO := Lib.hid co
  have CN := Lib.hid cn
  have CA := Lib.hid ca
  have AK := Lib.hid ak
  have G1 := Lib.hid (get_any (h1.below HB0.out) (bs e.name) (fun k hk => by have := (ht1.short hk).2; omega) (by rw [bs_size]; omega))
  rw [bs_list, getV_of hl] at G1
  have G2 := Lib.hid (fun w' (hb : Below w.heap.size w w') => get_any (h2.below hb) (bs e.name) (fun k hk => by have := (ht2.short hk).2; omega) (by rw [bs_size]; omega))
  rw [bs_list] at G2
  obtain ⟨gv, hgv⟩ := getV_at now e.name
  rw [hgv] at G2
  have eH : held old now e = (nodeB (old.file k1) (nodeAt now e.name) && likeIn old now e.name) := by unfold held; rw [get_of hl, nodeB_dec]
  rw [eH]
  obtain ⟨n1, hn1⟩ : ∃ n, n = old.file k1 := ⟨_, rfl⟩
  obtain ⟨n2, hn2⟩ : ∃ n, n = nodeAt now e.name := ⟨_, rfl⟩
  obtain ⟨lk, hlk⟩ : ∃ n, n = likeIn old now e.name := ⟨_, rfl⟩
  rw [← hn1] at G1 ⊢
  rw [← hn2] at G2 ⊢
  rw [← hlk] at AK ⊢
  have NE := fun w => node_eql w n1 n2
  obtain ⟨q, hq⟩ : ∃ q, q = nodeB n1 n2 := ⟨_, rfl⟩
  rw [← hq] at NE ⊢
  unfold ndv ndc at G1 G2 NE
  have lE := KE.out.lt
  have co1 : W.cell? ⟨po, 0, none⟩ = some (.pointer (some ⟨g1, 0, none⟩)) := (HB0.out.cell (p := ⟨po, 0, none⟩) lo).trans co
  have lo1 := World.block_lt_of_cell? W ⟨po, 0, none⟩ co1
  simp only at lo1
  have cN1 : W.cell? ⟨w.heap.size, 0, none⟩ = some (.string (bs e.name)) := KE.out.cell 0
  unfold ev evc
  clear h1 h2 ht1 ht2 hx1 hx2 hW hgv co cn ca ak hl hn1 hn2 hlk eH hq
  go_enter Tryz.func80, Tryz.ntmps80
  repeat' ((fail_if_success (with_reducible refine halt_at 1 ?_)); first | go_values | go_skip | go_guarded | go_step | go_upon | go_back | (simp only [Int.not_lt, Int.not_le] at *; go_simp) | (go_values <;> (try go_simp)) | (go_ite <;> go_prune <;> (try go_simp)) | (split <;> (first | (rename_i hx; exact (hx _ rfl).elim) | go_prune)))
  rw [← HW.out]
  clear HW
  go_wp2_with fail
  refine G1.out.mono ?_
  rintro r w1 ⟨rfl, h1⟩
  obtain ⟨w2, hw2⟩ : ∃ W, W = w1.alloc (.cells #[.int .u8 n1.kind, .int .i64 n1.mode, .int .i64 n1.uid, .int .i64 n1.gid, .int .i64 n1.sec, .int .i64 n1.nano, .string (bs n1.data), .string (bs n1.link), .int .i64 n1.major, .int .i64 n1.minor] 33) := ⟨_, rfl⟩
  have h12 : Below w1.heap.size w1 w2 := by rw [hw2]; exact (Below.refl _ _).alloc (Nat.le_refl _) _
  have B2 := Lib.hid (thenB h1 h12)
  have W2 := Lib.hid (thenB HB0.out B2.out)
  have GG := Lib.hid (G2.out w2 W2.out)
  have HW2 := Lib.hid hw2
  have P2 := Lib.hid (show Blk w2 w1.heap.size 33 #[.int .u8 n1.kind, .int .i64 n1.mode, .int .i64 n1.uid, .int .i64 n1.gid, .int .i64 n1.sec, .int .i64 n1.nano, .string (bs n1.data), .string (bs n1.link), .int .i64 n1.major, .int .i64 n1.minor] by rw [hw2]; exact Blk.new w1 33 _)
  have hw2z : w2.heap.size = w1.heap.size + 1 := by rw [hw2]; simp
  have cn2 : w2.cell? ⟨pn, 0, none⟩ = some (.pointer (some ⟨g2, 0, none⟩)) := (W2.out.cell (p := ⟨pn, 0, none⟩) ln).trans CN.out
  have ln2 := World.block_lt_of_cell? w2 ⟨pn, 0, none⟩ cn2
  simp only at ln2
  have k2 := KE.out.below B2.out lE
  have cN2 : w2.cell? ⟨w.heap.size, 0, none⟩ = some (.string (bs e.name)) := k2.cell 0
  have lE2 := k2.lt
  clear h1 h12 hw2 G1 G2 co1 lo1 cN1 k2
  repeat' ((fail_if_success (with_reducible refine halt_at 2 ?_)); first | go_values | go_skip | go_guarded | go_step | go_upon | go_back | (simp only [Int.not_lt, Int.not_le] at *; go_simp) | (go_values <;> (try go_simp)) | (go_ite <;> go_prune <;> (try go_simp)) | (split <;> (first | (rename_i hx; exact (hx _ rfl).elim) | go_prune)))
  rw [← HW2.out]
  clear HW2
  obtain ⟨pp, hpp⟩ : ∃ pp, pp = w1.heap.size := ⟨_, rfl⟩
  rw [← hpp] at P2 hw2z ⊢
  clear hpp
  go_wp2_with fail
  refine GG.out.mono ?_
  rintro r w3 ⟨rfl, h3⟩
  obtain ⟨w4, hw4⟩ : ∃ W, W = w3.alloc (.cells #[.int .u8 n2.kind, .int .i64 n2.mode, .int .i64 n2.uid, .int .i64 n2.gid, .int .i64 n2.sec, .int .i64 n2.nano, .string (bs n2.data), .string (bs n2.link), .int .i64 n2.major, .int .i64 n2.minor] 33) := ⟨_, rfl⟩
  have h34 : Below w3.heap.size w3 w4 := by rw [hw4]; exact (Below.refl _ _).alloc (Nat.le_refl _) _
  have h24 := thenB h3 h34
  have W4 := Lib.hid (thenB W2.out h24)
  have HW4 := Lib.hid hw4
  have P4 := Lib.hid (P2.out.below h24 (by omega))
  have Q4 := Lib.hid (show Blk w4 w3.heap.size 33 #[.int .u8 n2.kind, .int .i64 n2.mode, .int .i64 n2.uid, .int .i64 n2.gid, .int .i64 n2.sec, .int .i64 n2.nano, .string (bs n2.data), .string (bs n2.link), .int .i64 n2.major, .int .i64 n2.minor] by rw [hw4]; exact Blk.new w3 33 _)
  have E4 := Lib.hid (KE.out.below (thenB B2.out h24) lE)
  have ca4 : w4.cell? ⟨pa, 0, none⟩ = some (.func (.func 76) #[] #[.pointer (some ⟨pb, 0, none⟩), .pointer (some ⟨qo, 0, none⟩), .pointer (some ⟨qn, 0, none⟩)]) := (W4.out.cell (p := ⟨pa, 0, none⟩) la).trans CA.out
  have la4 := World.block_lt_of_cell? w4 ⟨pa, 0, none⟩ ca4
  simp only at la4
  have lE4 := E4.out.lt
  have lP4 := P4.out.lt
  have lQ4 := Q4.out.lt
  have cN4 : w4.cell? ⟨w.heap.size, 0, none⟩ = some (.string (bs e.name)) := E4.out.cell 0
  have AC := Lib.hid (AK.out w4 W4.out)
  clear h3 h34 h24 hw4 cn2 ln2 cN2 lE2 GG AK
  repeat' ((fail_if_success (with_reducible refine halt_at 3 ?_)); first | go_values | go_skip | go_guarded | go_step | go_upon | go_back | (simp only [Int.not_lt, Int.not_le] at *; go_simp) | (go_values <;> (try go_simp)) | (go_ite <;> go_prune <;> (try go_simp)) | (split <;> (first | (rename_i hx; exact (hx _ rfl).elim) | go_prune)))
  rw [← HW4.out]
  clear HW4
  obtain ⟨pq, hpq⟩ : ∃ pq, pq = w3.heap.size := ⟨_, rfl⟩
  rw [← hpq] at Q4 lQ4 ⊢
  clear hpq
  have x0 : w4.cell? ⟨pp, 0, none⟩ = some (.int .u8 n1.kind) := P4.out.cell 0
  have x1 : w4.cell? ⟨pp, 1, none⟩ = some (.int .i64 n1.mode) := P4.out.cell 1
  have x2 : w4.cell? ⟨pp, 2, none⟩ = some (.int .i64 n1.uid) := P4.out.cell 2
  have x3 : w4.cell? ⟨pp, 3, none⟩ = some (.int .i64 n1.gid) := P4.out.cell 3
  have x4 : w4.cell? ⟨pp, 4, none⟩ = some (.int .i64 n1.sec) := P4.out.cell 4
  have x5 : w4.cell? ⟨pp, 5, none⟩ = some (.int .i64 n1.nano) := P4.out.cell 5
  have x6 : w4.cell? ⟨pp, 6, none⟩ = some (.string (bs n1.data)) := P4.out.cell 6
  have x7 : w4.cell? ⟨pp, 7, none⟩ = some (.string (bs n1.link)) := P4.out.cell 7
  have x8 : w4.cell? ⟨pp, 8, none⟩ = some (.int .i64 n1.major) := P4.out.cell 8
  have x9 : w4.cell? ⟨pp, 9, none⟩ = some (.int .i64 n1.minor) := P4.out.cell 9
  have y0 : w4.cell? ⟨pq, 0, none⟩ = some (.int .u8 n2.kind) := Q4.out.cell 0
  have y1 : w4.cell? ⟨pq, 1, none⟩ = some (.int .i64 n2.mode) := Q4.out.cell 1
  have y2 : w4.cell? ⟨pq, 2, none⟩ = some (.int .i64 n2.uid) := Q4.out.cell 2
  have y3 : w4.cell? ⟨pq, 3, none⟩ = some (.int .i64 n2.gid) := Q4.out.cell 3
  have y4 : w4.cell? ⟨pq, 4, none⟩ = some (.int .i64 n2.sec) := Q4.out.cell 4
  have y5 : w4.cell? ⟨pq, 5, none⟩ = some (.int .i64 n2.nano) := Q4.out.cell 5
  have y6 : w4.cell? ⟨pq, 6, none⟩ = some (.string (bs n2.data)) := Q4.out.cell 6
  have y7 : w4.cell? ⟨pq, 7, none⟩ = some (.string (bs n2.link)) := Q4.out.cell 7
  have y8 : w4.cell? ⟨pq, 8, none⟩ = some (.int .i64 n2.major) := Q4.out.cell 8
  have y9 : w4.cell? ⟨pq, 9, none⟩ = some (.int .i64 n2.minor) := Q4.out.cell 9
  cases q
  · go_wp2_with fail
    go_ret
    exact ⟨rfl, W4.out⟩
  · go_wp2_with fail
    refine AC.out.mono ?_
    rintro r w5 ⟨rfl, h5⟩
    have W5 := Lib.hid (thenB W4.out h5)
    clear h5
    go_wp2_with fail
    go_ret
    exact ⟨rfl, W5.out⟩

end Go.Proofs.YtipajekehbpghaaGreatDoor
