/-
  since.has; since.Gone where nothing stays.
-/
import Derived.Test.YtipajekehbpghaaGreatDoorZo
import Derived.Test.YtipajekehbpghaaGreatDoorZf
import Derived.Test.YtipajekehbpghaaGreatDoorZq
import Derived.Deep.RegionHeld3
import Derived.BigRegion
import Derived.Deep.LoopGhost
import Derived.Test.YtipajekehbpghaaGreatDoorZa
import Derived.Test.YtipajekehbpghaaGreatDoorZd
import Derived.Laws.IdiomCopy
import Derived.Deep.Slices
import Derived.Deep.Grids
import Derived.Test.YtipajekehbpghaaGreatDoorZl
import Derived.Test.YtipajekehbpghaaGreatDoorZc
import Derived.Shelf.Lays8
import Derived.Shelf.Spec.SlicesGrow
import Derived.Deep.Upon
import Derived.OwnWalk
set_option linter.unusedVariables false
set_option linter.unusedSimpArgs false

namespace Go.Proofs.YtipajekehbpghaaGreatDoor
open Go.RowKit Go.Maps Tre Pk

set_option maxRecDepth 100000 in
theorem has_any {w : World} {g : Nat} {on of : Option Nat} {t : T} (h : TreeAt w g on of t) (ht : Std t) (s : Pth.Bs) (hs : s.length ≤ 1000) :
    Calls Tryz.prog 84 #[.pointer (some ⟨g, 0, none⟩), .string (bs s)] w fun e w' => e = .returned (.bool (decide (0 < t.links s))) ∧ Below w.heap.size w w' := by
  have LK := Lib.hid (links_any h ht (bs s) (by rw [bs_size]; omega))
  rw [bs_list] at LK
  obtain ⟨n, hn⟩ : ∃ n, n = t.links s := ⟨_, rfl⟩
  rw [← hn] at LK ⊢
  clear h hn
  have hd : decide ((0 : Int) < (n : Int)) = decide (0 < n) := by rw [decide_eq_decide]; omega
  go_enter Tryz.func84, Tryz.ntmps84
  go_wp2_with fail
  refine LK.out.mono ?_
  rintro e w1 ⟨rfl, h1⟩
  have B1 := Lib.hid h1
  clear h1
  go_wp2_with fail
  go_ret
  exact ⟨by first | rfl | (congr 2), B1.out⟩

set_option maxRecDepth 100000 in
set_option maxHeartbeats 4000000 in
theorem goneC_none {W : World} {g : Nat} {on of : Option Nat} {t : T} (h : TreeAt W g on of t) (ht : Std t) (s : Pth.Bs) (hs : s.length ≤ 1000) (h0 : t.links s = 0) (pn po : Nat) (cn : W.cell? ⟨pn, 0, none⟩ = some (.pointer (some ⟨g, 0, none⟩))) :
    Calls Tryz.prog 83 #[.string (bs s), .pointer (some ⟨pn, 0, none⟩), .pointer (some ⟨po, 0, none⟩)] W fun e w' => e = .returned (.bool false) ∧ Below W.heap.size W w' := by
  have HA := Lib.hid (fun w' (hb : Below W.heap.size W w') => has_any (h.below hb) ht s hs)
  rw [h0, show decide (0 < 0) = false from rfl] at HA
  have hlt := World.block_lt_of_cell? W ⟨pn, 0, none⟩ cn
  simp only at hlt
  have KC := Lib.hid (fun w' (hb : Below W.heap.size W w') => (show w'.cell? ⟨pn, 0, none⟩ = some (.pointer (some ⟨g, 0, none⟩)) ∧ Below W.heap.size W w' from ⟨(hb.cell (p := ⟨pn, 0, none⟩) hlt).trans cn, hb⟩))
  have bw := Below.refl W.heap.size W
  clear h ht
  go_enter Tryz.func83, Tryz.ntmps83
  go_wp2_with fail
  refine wp_region_held_drew (S := fun w' => w'.cell? ⟨pn, 0, none⟩ = some (.pointer (some ⟨g, 0, none⟩)) ∧ Below W.heap.size W w') (by kernel_rfl) (KC.out _ (Below.drew bw)) (fun hHeld => ?_)
  refine wpAnyH_takeD (i := 0) (d := 5) (listed' := #[true, false, false, false, false, false, false, false, false, false, false, false, false]) (v := ?_) rfl (by kernel_rfl) (by kernel_rfl) (by kernel_rfl) (by kernel_rfl) (by kernel_rfl) (fun _ _ _ h => h) (Or.inl ⟨by kernel_rfl, ?_⟩) (by assumption) ?_; rotate_left; (focus (intro w hSw; (try dsimp only at hSw); go_simp; (try with_reducible rfl))); (try simp only [List.foldl_cons, List.foldl_nil, Act.put, List.setIfInBounds_toArray, List.set_cons_zero, List.set_cons_succ])
  refine wpAnyH_takeD (i := 1) (d := 6) (listed' := #[true, true, false, false, false, false, false, false, false, false, false, false, false]) (v := ?_) rfl (by kernel_rfl) (by kernel_rfl) (by kernel_rfl) (by kernel_rfl) (by kernel_rfl) (fun _ _ _ h => h) (Or.inl ⟨by kernel_rfl, ?_⟩) (by assumption) ?_; rotate_left; (focus (intro w hSw; (try dsimp only at hSw); go_simp; (try with_reducible rfl))); (try simp only [List.foldl_cons, List.foldl_nil, Act.put, List.setIfInBounds_toArray, List.set_cons_zero, List.set_cons_succ])
  refine wpAnyH_ready (rs := [2]) (by kernel_rfl) (by simp) ?_
  refine AllReadyH.cons rfl (fun K hK => ?_) AllReadyH.nil
  go_simp
  refine (HA.out _ (Below.drew bw)).mono ?_
  rintro e wt ⟨rfl, TT⟩
  have TB : Below W.heap.size W wt := thenB (Below.drew bw) TT
  refine hK.out _ _ (KC.out wt TB) (fun hHeld2 => ?_)
  clear hK K hHeld
  (try simp only [List.foldl_cons, List.foldl_nil, Act.put, List.setIfInBounds_toArray, List.set_cons_zero, List.set_cons_succ])
  refine wpAnyH_takeD (i := 3) (d := 8) (listed' := #[true, true, true, true, false, false, false, false, false, false, false, false, false]) (v := ?_) rfl (by kernel_rfl) (by kernel_rfl) (by kernel_rfl) (by kernel_rfl) (by kernel_rfl) (fun _ _ _ h => h) (Or.inl ⟨by kernel_rfl, ?_⟩) (by assumption) ?_; rotate_left; (focus (intro w hSw; (try dsimp only at hSw); go_simp; (try with_reducible rfl))); (try simp only [List.foldl_cons, List.foldl_nil, Act.put, List.setIfInBounds_toArray, List.set_cons_zero, List.set_cons_succ])
  refine wpAnyH_skips_of (ds := [some 9, some 10, some 11, some 12, some 13, some 14, some 15]) (listed' := #[true, true, true, true, true, true, true, true, true, true, true, false, false]) (fuel := 2) [4, 5, 6, 7, 8, 9, 10] [(3, some false)] (by kernel_rfl) (by kernel_rfl) (by kernel_rfl) (by kernel_rfl) (by kernel_rfl) (fun _ _ _ _ _ h => h) (by assumption) (by intro p hp; rw [List.mem_singleton.1 hp]; kernel_rfl) ?_
  (try simp only [List.foldl_cons, List.foldl_nil, Act.put, List.setIfInBounds_toArray, List.set_cons_zero, List.set_cons_succ])
  refine wpAnyH_takeD (i := 11) (d := 16) (listed' := #[true, true, true, true, true, true, true, true, true, true, true, true, false]) (v := ?_) rfl (by kernel_rfl) (by kernel_rfl) (by kernel_rfl) (by kernel_rfl) (by kernel_rfl) (fun _ _ _ h => h) (Or.inl ⟨by kernel_rfl, ?_⟩) (by assumption) ?_; rotate_left; (focus (intro w hSw; (try dsimp only at hSw); go_simp; (try with_reducible rfl))); (try simp only [List.foldl_cons, List.foldl_nil, Act.put, List.setIfInBounds_toArray, List.set_cons_zero, List.set_cons_succ])
  refine wpAnyH_takeD (i := 12) (d := 4) (listed' := #[true, true, true, true, true, true, true, true, true, true, true, true, true]) (v := ?_) rfl (by kernel_rfl) (by kernel_rfl) (by kernel_rfl) (by kernel_rfl) (by kernel_rfl) (fun _ _ _ h => h) (Or.inl ⟨by kernel_rfl, ?_⟩) (by assumption) ?_; rotate_left; (focus (intro w hSw; (try dsimp only at hSw); go_simp; (try with_reducible rfl))); (try simp only [List.foldl_cons, List.foldl_nil, Act.put, List.setIfInBounds_toArray, List.set_cons_zero, List.set_cons_succ])
  refine wpAnyH_done (by kernel_rfl) ?_ _
  go_wp2_with fail
  go_ret
  exact ⟨rfl, TB⟩

/-- slices.IndexFunc, slices.DeleteFunc at texts of which none is left out. -/
theorem indexT_none {w : World} {v : Value} {l : List Pth.Bs} {B : Nat} (h : HasS w B v l) (hl : l.length ≤ 1000) (q : Nat) (lb : Array Value) (eg : ∀ args w, (callFunc q args).run Tryz.prog w = .ok (.enter q args) w)
    (hp : ∀ s ∈ l, ∀ w', Below w.heap.size w w' → Calls Tryz.prog q (#[.string (bs s)] ++ lb) w' fun e w'' => e = .returned (.bool false) ∧ Below w'.heap.size w' w'') :
    Calls Tryz.prog 30 #[v, .func (.func q) #[] lb] w fun e w' => e = .returned (.int .i64 (-1)) ∧ Below w.heap.size w w' := by
  obtain ⟨A, c, rfl, hc, hr⟩ := h
  have HR := Lib.hid hr
  have HP := Lib.hid hp
  have hli : (l.length : Int) ≤ 1000 := by omega
  clear hr hp
  go_enter Tryz.func30, Tryz.ntmps30
  go_wp2_with fail
  go_loopg [5, 8] (l.length) (fun gg _ iv wr => ∃ i : Nat, iv = .int .i64 i ∧ i ≤ l.length ∧ gg = l.length - i ∧ Hid (Below w.heap.size w wr))
  case atStart => exact ⟨0, rfl, by omega, by omega, Lib.hid (Below.refl _ _)⟩
  case round =>
    obtain ⟨i, rfl, hi, hg, HW⟩ := hrel
    have HG := Lib.hid hg
    clear hg
    by_cases hil : i < l.length
    · have hii : (i : Int) < l.length := by omega
      rcases HR.out with h0 | ⟨b, off, rfl, _, hb, hrow⟩
      · rw [h0] at hil; cases hil
      have cs : wr.cell? ⟨b, off + i, none⟩ = some (.string (bs l[i])) := (HW.out.cell (p := ⟨b, off + i, none⟩) hb).trans (hrow i hil)
      have PP := Lib.hid (HP.out l[i] (List.getElem_mem hil) wr HW.out)
      obtain ⟨s, hs⟩ : ∃ s, s = l[i] := ⟨_, rfl⟩
      rw [← hs] at cs PP
      clear hs hrow
      go_wp2_with (go_at_fn q; refine PP.out.mono ?_; rintro e w1 ⟨rfl, hb1⟩)
      have B1 := Lib.hid (thenB HW.out hb1)
      clear hb1
      go_wp2_with fail
      go_roundg (l.length - (i + 1))
      case measure => have := HG.out; omega
      case rel => exact ⟨i + 1, by go_num, by omega, by omega, B1⟩
    · have hii : (l.length : Int) ≤ i := by omega
      go_wp2_with fail
      go_ret
      exact ⟨rfl, HW.out⟩
theorem deleteT_none {w : World} {v : Value} {l : List Pth.Bs} {B : Nat} (h : HasS w B v l) (hl : l.length ≤ 1000) (q : Nat) (lb : Array Value) (eg : ∀ args w, (callFunc q args).run Tryz.prog w = .ok (.enter q args) w)
    (hp : ∀ s ∈ l, ∀ w', Below w.heap.size w w' → Calls Tryz.prog q (#[.string (bs s)] ++ lb) w' fun e w'' => e = .returned (.bool false) ∧ Below w'.heap.size w' w'') :
    Calls Tryz.prog 82 #[v, .func (.func q) #[] lb] w fun e w' => e = .returned v ∧ Below w.heap.size w w' := by
  have IX := Lib.hid (indexT_none h hl q lb eg hp)
  obtain ⟨A, c, rfl, hc, hr⟩ := h
  clear hr hp
  go_enter Tryz.func82, Tryz.ntmps82
  go_wp2_with fail
  refine IX.out.mono ?_
  rintro e w1 ⟨rfl, h1⟩
  have B1 := Lib.hid h1
  clear h1
  go_wp2_with fail
  go_ret
  exact ⟨rfl, B1.out⟩

end Go.Proofs.YtipajekehbpghaaGreatDoor

namespace Go.Proofs.YtipajekehbpghaaGreatDoor
open Go.RowKit Go.Maps Tre Pk

theorem strsOf_rows (l : List (List UInt8)) : Lib.strsOf (fun i => bs (l.getD i [])) l.length = l := by
  unfold Lib.strsOf
  apply List.ext_getElem?
  intro i
  by_cases h : i < l.length
  · simp [h, bs_list, List.getD]
  · simp [h]
theorem reverse_any {w : World} {B : Nat} {v : Value} {l : List (List UInt8)} (h : HasT w B v l) (hl : l.length ≤ 1000) :
    Calls Tryz.prog 40 #[v] w fun e w' => e = .returned (.tuple #[]) ∧ HasS w' B v l.reverse ∧ Below B w w' := by
  rcases h.ways with ⟨rfl, h0⟩ | ⟨g, cap, cur, rfl, hg1, hg, hc, hblk, _, hcm, hrow⟩
  · refine (Tryz.slices_Reverse_string_empty none 0 w).mono ?_
    rintro e w' ⟨rfl, rfl⟩
    exact ⟨rfl, ⟨none, 0, by rw [h0]; rfl, by rw [h0]; exact Nat.le_refl _, .inl (by rw [h0]; rfl)⟩, Below.refl _ _⟩
  · have hd := Tryz.slices_Reverse_string_cells g 0 l.length cap (fun i => bs (l.getD i [])) w (by omega) (fun j hj => by rw [hrow j hj]; simp [List.getD, hj]) (fun j hj => hblk.frozen _)
    rw [strsOf_rows] at hd
    refine hd.mono ?_
    rintro e w' ⟨rfl, q, rfl⟩
    refine ⟨rfl, ⟨some ⟨g, 0, none⟩, cap, by rw [List.length_reverse], by rw [List.length_reverse]; exact hc, .inr ⟨g, 0, rfl, hg1, ?_, fun j hj => ?_⟩⟩, ?_⟩
    · rw [size_setCells]; exact hg
    · have hj2 : j < (l.reverse.map encStr).length := by rw [List.length_map]; exact hj
      have hall : ∀ i, i < (l.reverse.map encStr).length → ((w.drewN q).cell? ⟨g, 0 + i, none⟩).isSome = true := fun i hi => by
        have hi2 : i < l.length := by rw [List.length_map, List.length_reverse] at hi; exact hi
        show (w.cell? ⟨g, 0 + i, none⟩).isSome = true
        rw [hrow i hi2]; rfl
      rw [World.cell?_setCells_in g _ 0 _ hall j hj2]
      rw [List.getElem_map]
      rfl
    · exact below_setCells (below_drewN (Below.refl _ _) q) g hg1 _ _

set_option maxRecDepth 100000 in
set_option maxHeartbeats 4000000 in
theorem goneN_any {w : World} {g1 : Nat} {on1 of1 : Option Nat} {old : T} {g2 : Nat} {on2 of2 : Option Nat} {now : T} (hm : ML w) (h1 : TreeAt w g1 on1 of1 old) (h2 : TreeAt w g2 on2 of2 now) (ht1 : Std old) (ht2 : Std now) (h0 : ∀ s ∈ old.names, now.links s = 0) :
    Calls Tryz.prog 37 #[.pointer (some ⟨g1, 0, none⟩), .pointer (some ⟨g2, 0, none⟩)] w fun e w' => ∃ v, e = .returned v ∧ HasS w' w.heap.size v old.names.reverse ∧ Below w.heap.size w w' := by
  obtain ⟨W, hW⟩ : ∃ W, W = (w.alloc (.cells #[.pointer (some ⟨g1, 0, none⟩)] 24)).alloc (.cells #[.pointer (some ⟨g2, 0, none⟩)] 24) := ⟨_, rfl⟩
  have HB0 := Lib.hid (show Below w.heap.size w W by rw [hW]; exact ((Below.refl _ _).alloc (Nat.le_refl _) _).alloc (by simp) _)
  have hWs : W.heap.size = w.heap.size + 2 := by rw [hW]; simp
  have K1 := Lib.hid (show Blk W w.heap.size 24 #[.pointer (some ⟨g1, 0, none⟩)] by rw [hW]; exact (Blk.new w 24 _).alloc _)
  have K2 := Lib.hid (show Blk W (w.heap.size + 1) 24 #[.pointer (some ⟨g2, 0, none⟩)] by
    have := Blk.new (w.alloc (.cells #[.pointer (some ⟨g1, 0, none⟩)] 24)) 24 #[.pointer (some ⟨g2, 0, none⟩)]
    rw [show (w.alloc (.cells #[.pointer (some ⟨g1, 0, none⟩)] 24)).heap.size = w.heap.size + 1 by simp] at this
    rw [hW]; exact this)
  have T1 := Lib.hid (h1.below HB0.out)
  have T2 := Lib.hid (h2.below HB0.out)
  have HM := Lib.hid (hm.below HB0.out)
  have hln : old.names.length ≤ 60 := by rw [names_len]; exact ht1.cn
  have HSL := Lib.hid (fun s (hs : s ∈ old.names) => (show s.length ≤ 1000 from by obtain ⟨_, _, hr, _⟩ := ht1.name hs; have := (right_len hr).1; omega))
  have NM := Lib.hid (names_any T1.out ht1 HM.out)
  have DE := Lib.hid (fun w3 v (hb : Below W.heap.size W w3) (hv : HasS w3 W.heap.size v old.names) => deleteT_none hv (by omega) 83 #[.pointer (some ⟨w.heap.size + 1, 0, none⟩), .pointer (some ⟨w.heap.size, 0, none⟩)] (fun args w => by go_simp) (fun s hs w' hb' => by
    have hb2 := thenB hb hb'
    have := goneC_none (W := w') (T2.out.below hb2) ht2 s (HSL.out s hs) (h0 s hs) (w.heap.size + 1) w.heap.size ((K2.out.below hb2 (by omega)).cell 0)
    exact this))
  obtain ⟨N, hN⟩ : ∃ N, N = old.names := ⟨_, rfl⟩
  rw [← hN] at NM DE hln ⊢
  have HW := Lib.hid hW
  have c1 : W.cell? ⟨w.heap.size, 0, none⟩ = some (.pointer (some ⟨g1, 0, none⟩)) := K1.out.cell 0
  have l1 := K1.out.lt
  clear hm h1 h2 ht1 ht2 h0 hW hN
  go_enter Tryz.func37, Tryz.ntmps37
  go_wp2_with fail
  rw [← HW.out]
  clear HW
  go_wp2_with fail
  refine NM.out.mono ?_
  rintro e w3 ⟨v3, rfl, hv3, h3⟩
  have B3 := Lib.hid h3
  have DD := Lib.hid (DE.out w3 v3 h3 hv3.has)
  have V3 := Lib.hid hv3
  clear hv3 h3 NM DE c1 l1
  go_wp2_with fail
  refine DD.out.mono ?_
  rintro e w4 ⟨rfl, h4⟩
  have B4 := Lib.hid (thenB B3.out h4)
  have RV := Lib.hid (reverse_any (V3.out.later h4) (by omega))
  clear h4 DD
  go_wp2_with fail
  refine RV.out.mono ?_
  rintro e w5 ⟨rfl, hv5, h5⟩
  have B5 := Lib.hid (show Below w.heap.size w w5 from (thenB HB0.out B4.out).trans (h5.mono (by omega)))
  have V5 := Lib.hid (hv5.mono (C := w.heap.size) (show w.heap.size ≤ W.heap.size by omega))
  clear hv5 h5 RV
  obtain ⟨A, c, hv, _⟩ := id V5.out
  rw [List.length_reverse] at hv
  subst hv
  go_wp2_with fail
  go_ret
  exact ⟨_, rfl, V5.out, B5.out⟩

end Go.Proofs.YtipajekehbpghaaGreatDoor

namespace Go.Proofs.YtipajekehbpghaaGreatDoor
open Go.RowKit Go.Maps Tre Pk

set_option maxRecDepth 100000 in
set_option maxHeartbeats 4000000 in
theorem changedC_none {w : World} {g1 : Nat} {on1 of1 : Option Nat} {old : T} {g2 : Nat} {on2 of2 : Option Nat} {now : T} (h1 : TreeAt w g1 on1 of1 old) (h2 : TreeAt w g2 on2 of2 now) (ht2 : Std now) (hx2 : now.nx ≤ 100000)
    (e : Ent) (mv : Value) (hn : e.name.length ≤ 1000) (h0 : Tre.look old.ents e.name = none) (po pn pa : Nat) (co : w.cell? ⟨po, 0, none⟩ = some (.pointer (some ⟨g1, 0, none⟩))) (cn : w.cell? ⟨pn, 0, none⟩ = some (.pointer (some ⟨g2, 0, none⟩))) :
    Calls Tryz.prog 80 #[ev e mv, .pointer (some ⟨po, 0, none⟩), .pointer (some ⟨pn, 0, none⟩), .pointer (some ⟨pa, 0, none⟩)] w fun r w' => r = .returned (.bool false) ∧ Below w.heap.size w w' := by
  obtain ⟨W, hW⟩ : ∃ W, W = w.alloc (.cells #[.string (bs e.name), .int .u8 e.kind, .int .i64 e.mode, .int .i64 e.uid, .int .i64 e.gid, .int .i64 e.size, .int .i64 e.sec, .int .i64 e.nano, .string (bs e.link), .string (bs e.user), .string (bs e.group), .int .i64 e.major, .int .i64 e.minor, .string (bs e.data), mv] 40) := ⟨_, rfl⟩
  have HB0 := Lib.hid (show Below w.heap.size w W by rw [hW]; exact (Below.refl _ _).alloc (Nat.le_refl _) _)
  have KE := Lib.hid (show Blk W w.heap.size 40 #[.string (bs e.name), .int .u8 e.kind, .int .i64 e.mode, .int .i64 e.uid, .int .i64 e.gid, .int .i64 e.size, .int .i64 e.sec, .int .i64 e.nano, .string (bs e.link), .string (bs e.user), .string (bs e.group), .int .i64 e.major, .int .i64 e.minor, .string (bs e.data), mv] by rw [hW]; exact Blk.new w 40 _)
  have HW := Lib.hid hW
  have lo := World.block_lt_of_cell? w ⟨po, 0, none⟩ co
  have ln := World.block_lt_of_cell? w ⟨pn, 0, none⟩ cn
  simp only at lo ln
  have CO := Lib.hid co
  have CN := Lib.hid cn
  have G1 := Lib.hid (get_any (h1.below HB0.out) (bs e.name) (fun k hk => by rw [bs_list, h0] at hk; cases hk) (by rw [bs_size]; omega))
  rw [bs_list, getV_none h0] at G1
  have G2 := Lib.hid (fun w' (hb : Below w.heap.size w w') => get_any (h2.below hb) (bs e.name) (fun k hk => by have := (ht2.short hk).2; omega) (by rw [bs_size]; omega))
  rw [bs_list] at G2
  have GV : ∃ n v, getV now e.name = .tuple #[ndv n, v] := by
    unfold getV
    split
    · exact ⟨_, _, rfl⟩
    · exact ⟨_, _, rfl⟩
  obtain ⟨n, gv, hgv⟩ := GV
  rw [hgv] at G2
  unfold ndv ndc zero at G1
  unfold ndv ndc at G2
  simp only at G1
  have lE := KE.out.lt
  have co1 : W.cell? ⟨po, 0, none⟩ = some (.pointer (some ⟨g1, 0, none⟩)) := (HB0.out.cell (p := ⟨po, 0, none⟩) lo).trans co
  have lo1 := World.block_lt_of_cell? W ⟨po, 0, none⟩ co1
  simp only at lo1
  have cN1 : W.cell? ⟨w.heap.size, 0, none⟩ = some (.string (bs e.name)) := KE.out.cell 0
  unfold ev evc
  clear h1 h2 ht2 hx2 h0 hW hgv co cn
  go_enter Tryz.func80, Tryz.ntmps80
  repeat' ((fail_if_success (with_reducible refine halt_at 1 ?_)); first | go_values | go_skip | go_guarded | go_step | go_upon | go_back | (simp only [Int.not_lt, Int.not_le] at *; go_simp) | (go_values <;> (try go_simp)) | (go_ite <;> go_prune <;> (try go_simp)) | (split <;> (first | (rename_i hx; exact (hx _ rfl).elim) | go_prune)))
  rw [← HW.out]
  clear HW
  go_wp2_with fail
  refine G1.out.mono ?_
  rintro r w1 ⟨rfl, h1⟩
  obtain ⟨w2, hw2⟩ : ∃ W, W = w1.alloc (.cells #[.int .u8 0, .int .i64 0, .int .i64 0, .int .i64 0, .int .i64 0, .int .i64 0, .string (bs []), .string (bs []), .int .i64 0, .int .i64 0] 33) := ⟨_, rfl⟩
  have h12 : Below w1.heap.size w1 w2 := by rw [hw2]; exact (Below.refl _ _).alloc (Nat.le_refl _) _
  have B2 := Lib.hid (thenB h1 h12)
  have W2 := Lib.hid (thenB HB0.out B2.out)
  have GG := Lib.hid (G2.out w2 W2.out)
  have HW2 := Lib.hid hw2
  have cn2 : w2.cell? ⟨pn, 0, none⟩ = some (.pointer (some ⟨g2, 0, none⟩)) := (W2.out.cell (p := ⟨pn, 0, none⟩) ln).trans CN.out
  have ln2 := World.block_lt_of_cell? w2 ⟨pn, 0, none⟩ cn2
  simp only at ln2
  have k2 := KE.out.below B2.out lE
  have cN2 : w2.cell? ⟨w.heap.size, 0, none⟩ = some (.string (bs e.name)) := k2.cell 0
  have lE2 := k2.lt
  clear h1 h12 hw2 G1 G2 co1 lo1 cN1 k2
  repeat' ((fail_if_success (with_reducible refine halt_at 2 ?_)); first | go_values | go_skip | go_guarded | go_step | go_upon | go_back | (simp only [Int.not_lt, Int.not_le] at *; go_simp) | (go_values <;> (try go_simp)) | (go_ite <;> go_prune <;> (try go_simp)) | (split <;> (first | (rename_i hx; exact (hx _ rfl).elim) | go_prune)))
  rw [← HW2.out]
  clear HW2
  go_wp2_with fail
  refine GG.out.mono ?_
  rintro r w3 ⟨rfl, h3⟩
  have W3 := Lib.hid (thenB W2.out h3)
  clear h3 GG cn2 ln2 cN2 lE2
  go_wp2_with fail
  go_ret
  exact ⟨rfl, W3.out.alloc W3.out.size _⟩

set_option maxRecDepth 100000 in
set_option maxHeartbeats 4000000 in
theorem indexE_none0 {w : World} {v : Value} {ps : List (Ent × Value)} (h : EntsAt w v ps) (hl : ps.length ≤ 1000) (q : Nat) (lb : Array Value) (eg : ∀ args w, (callFunc q args).run Tryz.prog w = .ok (.enter q args) w)
    (hp : ∀ p ∈ ps, ∀ w', Below w.heap.size w w' → Calls Tryz.prog q (#[ev p.1 p.2] ++ lb) w' fun e w'' => e = .returned (.bool false) ∧ Below w'.heap.size w' w'') :
    Calls Tryz.prog 124 #[v, .func (.func q) #[] lb] w fun e w' => e = .returned (.int .i64 (-1)) ∧ Below w.heap.size w w' := by
  obtain ⟨⟨A, c, rfl, hc, hr⟩, _⟩ := h
  have HR := Lib.hid hr
  have HP := Lib.hid hp
  have hli : (ps.length : Int) ≤ 1000 := by omega
  clear hr hp
  go_enter Tryz.func124, Tryz.ntmps124
  go_wp2_with fail
  go_loopg [5, 8] (ps.length) (fun gg _ iv wr => ∃ i : Nat, iv = .int .i64 i ∧ i ≤ ps.length ∧ gg = ps.length - i ∧ Hid (Below w.heap.size w wr))
  case atStart => exact ⟨0, rfl, by omega, by omega, Lib.hid (Below.refl _ _)⟩
  case round =>
    obtain ⟨i, rfl, hi, hg, HW⟩ := hrel
    have HG := Lib.hid hg
    clear hg
    by_cases hil : i < ps.length
    · have hii : (i : Int) < ps.length := by omega
      rcases HR.out with h0 | ⟨b, off, rfl, hb, hrow⟩
      · rw [h0] at hil; cases hil
      have hcell := (hrow.below HW.out hb) i hil
      have PP := Lib.hid (HP.out ps[i] (List.getElem_mem hil) wr HW.out)
      obtain ⟨x, hx⟩ : ∃ x, x = ps[i] := ⟨_, rfl⟩
      rw [← hx] at hcell PP
      have d0 : wr.cell? ⟨b, off + i * 15, none⟩ = some (.string (bs x.1.name)) := hcell 0 (by omega)
      have d1 : wr.cell? ⟨b, off + i * 15 + 1, none⟩ = some (.int .u8 x.1.kind) := hcell 1 (by omega)
      have d2 : wr.cell? ⟨b, off + i * 15 + 2, none⟩ = some (.int .i64 x.1.mode) := hcell 2 (by omega)
      have d3 : wr.cell? ⟨b, off + i * 15 + 3, none⟩ = some (.int .i64 x.1.uid) := hcell 3 (by omega)
      have d4 : wr.cell? ⟨b, off + i * 15 + 4, none⟩ = some (.int .i64 x.1.gid) := hcell 4 (by omega)
      have d5 : wr.cell? ⟨b, off + i * 15 + 5, none⟩ = some (.int .i64 x.1.size) := hcell 5 (by omega)
      have d6 : wr.cell? ⟨b, off + i * 15 + 6, none⟩ = some (.int .i64 x.1.sec) := hcell 6 (by omega)
      have d7 : wr.cell? ⟨b, off + i * 15 + 7, none⟩ = some (.int .i64 x.1.nano) := hcell 7 (by omega)
      have d8 : wr.cell? ⟨b, off + i * 15 + 8, none⟩ = some (.string (bs x.1.link)) := hcell 8 (by omega)
      have d9 : wr.cell? ⟨b, off + i * 15 + 9, none⟩ = some (.string (bs x.1.user)) := hcell 9 (by omega)
      have d10 : wr.cell? ⟨b, off + i * 15 + 10, none⟩ = some (.string (bs x.1.group)) := hcell 10 (by omega)
      have d11 : wr.cell? ⟨b, off + i * 15 + 11, none⟩ = some (.int .i64 x.1.major) := hcell 11 (by omega)
      have d12 : wr.cell? ⟨b, off + i * 15 + 12, none⟩ = some (.int .i64 x.1.minor) := hcell 12 (by omega)
      have d13 : wr.cell? ⟨b, off + i * 15 + 13, none⟩ = some (.string (bs x.1.data)) := hcell 13 (by omega)
      have d14 : wr.cell? ⟨b, off + i * 15 + 14, none⟩ = some x.2 := hcell 14 (by omega)
      unfold ev evc at PP
      clear hcell hx hrow
      go_wp2_with (go_at_fn q; refine PP.out.mono ?_; rintro e w1 ⟨rfl, hb1⟩)
      have B1 := Lib.hid (thenB HW.out hb1)
      clear hb1
      go_wp2_with fail
      go_roundg (ps.length - (i + 1))
      case measure => have := HG.out; omega
      case rel => exact ⟨i + 1, by go_num, by omega, by omega, B1⟩
    · have hii : (ps.length : Int) ≤ i := by omega
      go_wp2_with fail
      go_ret
      exact ⟨rfl, HW.out⟩
theorem deleteE_none {w : World} {v : Value} {ps : List (Ent × Value)} (h : EntsAt w v ps) (hl : ps.length ≤ 1000) (q : Nat) (lb : Array Value) (eg : ∀ args w, (callFunc q args).run Tryz.prog w = .ok (.enter q args) w)
    (hp : ∀ p ∈ ps, ∀ w', Below w.heap.size w w' → Calls Tryz.prog q (#[ev p.1 p.2] ++ lb) w' fun e w'' => e = .returned (.bool false) ∧ Below w'.heap.size w' w'') :
    Calls Tryz.prog 79 #[v, .func (.func q) #[] lb] w fun e w' => e = .returned v ∧ Below w.heap.size w w' := by
  have IX := Lib.hid (indexE_none0 h hl q lb eg hp)
  obtain ⟨⟨A, c, rfl, hc, hr⟩, _⟩ := h
  clear hr hp
  go_enter Tryz.func79, Tryz.ntmps79
  go_wp2_with fail
  refine IX.out.mono ?_
  rintro e w1 ⟨rfl, h1⟩
  have B1 := Lib.hid h1
  clear h1
  go_wp2_with fail
  go_ret
  exact ⟨rfl, B1.out⟩

end Go.Proofs.YtipajekehbpghaaGreatDoor

namespace Go.Proofs
open Go.Shelf
def Tryz.lays_grow_ren : Go.Shelf.Ren := ⟨fun | 4 => 123 | n => n, fun | 22 => 28 | 25 => 9 | 3 => 3 | 4 => 4 | 9 => 9 | 20 => 20 | 0 => 0 | n => n, fun | n => n⟩
theorem Tryz.lays_grow : Go.Proofs.Lays8.n4 Tryz.prog Tryz.lays_grow_ren := {
  mixed := by kernel_rfl
  f4 := ⟨Tryz.f123.name, by decide, Tryz.func123.trans (congrArg some (by kernel_rfl))⟩
  t0 := Tryz.underlying0
  a0 := Tryz.isAgg0
  z0 := Tryz.sizeOf0
  v0 := Tryz.zeroValue0
  t3 := Tryz.underlying3
  a3 := Tryz.isAgg3
  z3 := Tryz.sizeOf3
  v3 := Tryz.zeroValue3
  t4 := Tryz.underlying4
  a4 := Tryz.isAgg4
  z4 := Tryz.sizeOf4
  v4 := Tryz.zeroValue4
  t9 := Tryz.underlying9
  a9 := Tryz.isAgg9
  z9 := Tryz.sizeOf9
  v9 := Tryz.zeroValue9
  t20 := Tryz.underlying20
  a20 := Tryz.isAgg20
  z20 := Tryz.sizeOf20
  v20 := Tryz.zeroValue20
  t22 := Tryz.underlying28
  a22 := Tryz.isAgg28
  z22 := Tryz.sizeOf28
  v22 := Tryz.zeroValue28 }
end Go.Proofs
namespace Go.Proofs.YtipajekehbpghaaGreatDoor
open Go.RowKit

theorem rowS_cells {W : World} {b off : Nat} {P : List Pth.Bs} (h : RowS W b off P) : ∀ j u, (txCells P)[j]? = some u → W.cell? ((⟨b, off, none⟩ : Addr).add j) = some u := fun j u hu => by
  have hplain : (⟨b, off, none⟩ : Addr).add j = ⟨b, off + j, none⟩ := by unfold Addr.add; split <;> simp_all
  rw [hplain]
  unfold txCells at hu
  rw [List.getElem?_map] at hu
  by_cases hj : j < P.length
  · rw [List.getElem?_eq_getElem hj] at hu; cases hu; exact h j hj
  · rw [List.getElem?_eq_none (by omega)] at hu; cases hu
theorem grow_anyT (n : Nat) (hn : n ≤ 1000) (w : World) :
    Calls Tryz.prog 123 #[.slice none 0 0, .int .i64 n] w fun e w' => ∃ v, e = .returned v ∧ w'.ownsRow w.heap.size 9 1 v 0 [] ∧ Below w.heap.size w w' := by
  by_cases h0 : n = 0
  · subst h0
    exact (Any8.slices_Grow_room Tryz.lays_grow none 0 0 0 w (Nat.le_refl _) (by omega) (by omega) (by omega)).mono fun e w' ⟨he, hw⟩ => ⟨_, he, World.ownsRow_nil _ _ _ _, hw ▸ Below.refl _ _⟩
  · obtain ⟨i0, i1, i2, i3, i4⟩ := info_parts infoTx
    refine (Any8.slices_Grow_grow Tryz.lays_grow i0 _ i1 i2 (by rw [i3]; omega) none 0 0 n [] w (by omega) (by omega) (by rw [i4]; omega) (by omega) (by rw [i3]; rfl) (fun _ => rfl) (fun a h => by cases h)).mono fun e w' ⟨he, hw⟩ => ⟨_, he, ?_, ?_⟩
    · rw [hw]
      have ht : Tryz.lays_grow_ren.t 25 = 9 := rfl
      rw [ht]
      have hge := grownCap_ge w (0 + n) 0 9
      have hle := grownCap_le_maxLen w (0 + n) 0 9 (by unfold maxLen; omega)
      have hz : (Value.string ⟨#[]⟩).cells.size = 1 := rfl
      refine ⟨rfl, .inr ⟨w.heap.size, _, _, rfl, Nat.le_refl _, heap_alloc_new _ _, Nat.zero_le _, hle, ?_, by simp⟩⟩
      rw [Array.size_append, Array.size_append, size_zeroCells, size_zeroCells, hz]
      simp only [List.size_toArray, List.length_nil]
      omega
    · rw [hw]; exact (Below.refl _ _).drew.alloc (by simp) _

set_option maxRecDepth 100000 in
set_option maxHeartbeats 2000000 in
theorem concat_rowsT (P Q : List Pth.Bs) (g b1 c1 b2 c2 : Nat) (w : World) (h1 : P.length ≤ 100) (h2 : Q.length ≤ 100)
    (hg1 : w.cell? ⟨g, 0, none⟩ = some (.slice (some ⟨b1, 0, none⟩) P.length c1)) (hg2 : w.cell? ⟨g, 1, none⟩ = some (.slice (some ⟨b2, 0, none⟩) Q.length c2))
    (hb1 : b1 < w.heap.size) (hb2 : b2 < w.heap.size) (r1 : RowS w b1 0 P) (r2 : RowS w b2 0 Q) :
    Calls Tryz.prog 75 #[.slice (some ⟨g, 0, none⟩) 2 2] w fun e w' => ∃ v, e = .returned v ∧ HasT w' w.heap.size v (P ++ Q) ∧ Below w.heap.size w w' := by
  obtain ⟨i0, i1, i2, i3, i4⟩ := info_parts infoTx
  have hgl : g < w.heap.size := World.block_lt_of_cell? w ⟨g, 0, none⟩ hg1
  have R1 := Lib.hid r1
  have R2 := Lib.hid r2
  have hgr := fun w => grow_anyT (P.length + Q.length) (by omega) w
  have GR := Lib.hid hgr
  clear r1 r2 hgr
  have h00 : ¬ ((P.length : Int) < 0) := by omega
  have h01 : ¬ ((P.length : Int) + Q.length < 0) := by omega
  go_enter Tryz.func75, Tryz.ntmps75
  go_wp2_with fail
  refine wp_loop_rounds 3 ?_
  rw [rounds_succ]
  go_wp2_with fail
  rw [rounds_succ]
  go_wp2_with fail
  rw [rounds_succ]
  go_wp2_with fail
  have hgr := GR.out w
  rw [Int.natCast_add] at hgr
  refine hgr.mono ?_
  rintro e w1 ⟨v, rfl, hown, hb⟩
  have O1 := Lib.hid hown
  have B1 := Lib.hid hb
  have k1 := (hb.cell (p := ⟨g, 0, none⟩) hgl).trans hg1
  have k2 := (hb.cell (p := ⟨g, 1, none⟩) hgl).trans hg2
  have S1 := Lib.hid (R1.out.below hb hb1)
  have S2 := Lib.hid (R2.out.below hb hb2)
  clear hgr hown hb hg1 hg2
  go_wp2_with fail
  refine wp_loop_rounds 3 ?_
  rw [rounds_succ]
  go_wp2_with (first
    | (at_builtin; refine wpList_append_own _ rfl (.tmp 31) (.tmp 32) 28 rfl w.heap.size 9 i0 _ 1 16 Tryz.underlying28 i1 i2 i3 i4 rfl (by decide) v 0 [] rfl O1.out ⟨b1, 0, none⟩ P.length c1 (txCells P) rfl (by rw [txCells_len, Nat.mul_one]) (rowS_cells S1.out) (txCells_one P) (by unfold maxLen; omega) (by omega) (by have := B1.out.size; omega) ?_; intro v2 w2 hown2 hgrow2 _))
  have O2 := Lib.hid hown2
  have B2 := Lib.hid (B1.out.grown hgrow2 B1.out.size (fun q hq => (World.ownsRow.lt O1.out q hq).1))
  have S22 := R2.out.below B2.out hb2
  have k3 := (B2.out.cell (p := ⟨g, 0, none⟩) hgl).trans ((B1.out.cell (p := ⟨g, 0, none⟩) hgl).symm.trans k1)
  have k4 := (B2.out.cell (p := ⟨g, 1, none⟩) hgl).trans ((B1.out.cell (p := ⟨g, 1, none⟩) hgl).symm.trans k2)
  have S3 := Lib.hid S22
  clear hown2 hgrow2 S22 k1 k2
  rw [rounds_succ]
  go_wp2_with (first
    | (at_builtin; refine wpList_append_own _ rfl (.tmp 31) (.tmp 32) 28 rfl w.heap.size 9 i0 _ 1 16 Tryz.underlying28 i1 i2 i3 i4 rfl (by decide) v2 (0 + P.length) ([] ++ txCells P) rfl O2.out ⟨b2, 0, none⟩ Q.length c2 (txCells Q) rfl (by rw [txCells_len, Nat.mul_one]) (rowS_cells S3.out) (txCells_one Q) (by unfold maxLen; omega) (by omega) (by have := B2.out.size; omega) ?_; intro v3 w3 hown3 hgrow3 _))
  have B3 := Lib.hid (B2.out.grown hgrow3 B2.out.size (fun q hq => (World.ownsRow.lt O2.out q hq).1))
  have hown4 : HasT w3 w.heap.size v3 (P ++ Q) := by
    unfold HasT
    rw [List.nil_append, ← txCells_app, Nat.zero_add] at hown3
    rw [List.length_append]; exact hown3
  have O4 := Lib.hid hown4
  clear hown3 hgrow3 hown4
  rw [rounds_succ]
  go_wp2_with fail
  go_ret
  exact ⟨v3, rfl, O4.out, B3.out⟩

/-- Nothing is appended. -/
theorem wpList_append_nilT {ops : Array Oper} {rest : List Oper} {o : Oper} {a : Act} {w : World} {Q : Exit → Act → World → Prop} (hgd : o.guard = none) (s x : Operand)
    (ho : o.op = .call { callee := .builtin .append, args := #[s, x], argTypes := #[28, 28] })
    (base : Option Addr) (n cap : Nat) (hle : n ≤ cap) (hs : a.eval s = .slice base n cap) (hx : a.eval x = .slice none 0 0) (h : wpList Tryz.prog ops Q rest (a.put o.dst (.slice base n cap)) w) : wpList Tryz.prog ops Q (o :: rest) a w := by
  obtain ⟨i0, i1, i2, i3, i4⟩ := info_parts infoTx
  have hrun := run_append_nothing w _ _ o.type _ i0 Tryz.underlying28 i1 base n cap hle _ (Src.ofNil w Tryz.underlying28 0)
  refine wpList_plain hgd fun K hK' => ?_
  unfold Oper.wp
  simp [execOp, ho, resolve, invoke, builtin, hs, hx, hrun, Result.andThen]
  exact hK' _ _ h
theorem own_formT {w : World} {B : Nat} {e : TypeId} {size n : Nat} {v : Value} {xs : List Value} (h : w.ownsRow B e size v n xs) : ∃ base cap, v = .slice base n cap ∧ n ≤ cap := by
  obtain ⟨_, hw⟩ := h
  rcases hw with ⟨rfl, rfl⟩ | ⟨g, cap, cur, rfl, _, _, hc, _⟩
  · exact ⟨none, 0, rfl, Nat.le_refl _⟩
  · exact ⟨_, cap, rfl, hc⟩

set_option maxRecDepth 100000 in
set_option maxHeartbeats 2000000 in
theorem concat_leftT (Q : List Pth.Bs) (g b2 c2 : Nat) (w : World) (h2 : Q.length ≤ 100)
    (hg1 : w.cell? ⟨g, 0, none⟩ = some (.slice none 0 0)) (hg2 : w.cell? ⟨g, 1, none⟩ = some (.slice (some ⟨b2, 0, none⟩) Q.length c2))
    (hb2 : b2 < w.heap.size) (r2 : RowS w b2 0 Q) :
    Calls Tryz.prog 75 #[.slice (some ⟨g, 0, none⟩) 2 2] w fun e w' => ∃ v, e = .returned v ∧ HasT w' w.heap.size v Q ∧ Below w.heap.size w w' := by
  obtain ⟨i0, i1, i2, i3, i4⟩ := info_parts infoTx
  have hgl : g < w.heap.size := World.block_lt_of_cell? w ⟨g, 0, none⟩ hg1
  have R2 := Lib.hid r2
  have hgr := fun w => grow_anyT (Q.length) (by omega) w
  have GR := Lib.hid hgr
  clear r2 hgr
  have h00 : ¬ ((Q.length : Int) < 0) := by omega
  go_enter Tryz.func75, Tryz.ntmps75
  go_wp2_with fail
  refine wp_loop_rounds 3 ?_
  rw [rounds_succ]
  go_wp2_with fail
  rw [rounds_succ]
  go_wp2_with fail
  rw [rounds_succ]
  go_wp2_with fail
  have hgr := GR.out w
  try rw [Int.natCast_zero] at hgr
  refine hgr.mono ?_
  rintro e w1 ⟨v, rfl, hown, hb⟩
  obtain ⟨base, cap, rfl, hcap⟩ := own_formT hown
  have O1 := Lib.hid hown
  have B1 := Lib.hid hb
  have k1 := (hb.cell (p := ⟨g, 0, none⟩) hgl).trans hg1
  have k2 := (hb.cell (p := ⟨g, 1, none⟩) hgl).trans hg2
  have S2 := Lib.hid (R2.out.below hb hb2)
  clear hgr hown hb hg1 hg2
  go_wp2_with fail
  refine wp_loop_rounds 3 ?_
  rw [rounds_succ]
  go_wp2_with (first | (at_builtin; refine wpList_append_nilT rfl (.tmp 31) (.tmp 32) rfl base 0 cap hcap rfl rfl ?_))
  rw [rounds_succ]
  go_wp2_with (first
    | (at_builtin; refine wpList_append_own _ rfl (.tmp 31) (.tmp 32) 28 rfl w.heap.size 9 i0 _ 1 16 Tryz.underlying28 i1 i2 i3 i4 rfl (by decide) (.slice base 0 cap) 0 [] rfl O1.out ⟨b2, 0, none⟩ Q.length c2 (txCells Q) rfl (by rw [txCells_len, Nat.mul_one]) (rowS_cells S2.out) (txCells_one Q) (by unfold maxLen; omega) (by omega) (by have := B1.out.size; omega) ?_; intro v2 w2 hown2 hgrow2 _))
  have B2 := Lib.hid (B1.out.grown hgrow2 B1.out.size (fun q hq => (World.ownsRow.lt O1.out q hq).1))
  have hown4 : HasT w2 w.heap.size v2 Q := by
    unfold HasT
    rw [List.nil_append, Nat.zero_add] at hown2
    exact hown2
  have O4 := Lib.hid hown4
  clear hown2 hgrow2 hown4
  rw [rounds_succ]
  go_wp2_with fail
  go_ret
  exact ⟨v2, rfl, O4.out, B2.out⟩

set_option maxRecDepth 100000 in
set_option maxHeartbeats 2000000 in
theorem concat_rightT (P : List Pth.Bs) (g b1 c1 : Nat) (w : World) (h1 : P.length ≤ 100)
    (hg1 : w.cell? ⟨g, 0, none⟩ = some (.slice (some ⟨b1, 0, none⟩) P.length c1)) (hg2 : w.cell? ⟨g, 1, none⟩ = some (.slice none 0 0))
    (hb1 : b1 < w.heap.size) (r1 : RowS w b1 0 P) :
    Calls Tryz.prog 75 #[.slice (some ⟨g, 0, none⟩) 2 2] w fun e w' => ∃ v, e = .returned v ∧ HasT w' w.heap.size v P ∧ Below w.heap.size w w' := by
  obtain ⟨i0, i1, i2, i3, i4⟩ := info_parts infoTx
  have hgl : g < w.heap.size := World.block_lt_of_cell? w ⟨g, 0, none⟩ hg1
  have R1 := Lib.hid r1
  have hgr := fun w => grow_anyT (P.length) (by omega) w
  have GR := Lib.hid hgr
  clear r1 hgr
  have h00 : ¬ ((P.length : Int) < 0) := by omega
  go_enter Tryz.func75, Tryz.ntmps75
  go_wp2_with fail
  refine wp_loop_rounds 3 ?_
  rw [rounds_succ]
  go_wp2_with fail
  rw [rounds_succ]
  go_wp2_with fail
  rw [rounds_succ]
  go_wp2_with fail
  have hgr := GR.out w
  try rw [Int.natCast_zero] at hgr
  refine hgr.mono ?_
  rintro e w1 ⟨v, rfl, hown, hb⟩
  obtain ⟨base, cap, rfl, hcap⟩ := own_formT hown
  have O1 := Lib.hid hown
  have B1 := Lib.hid hb
  have k1 := (hb.cell (p := ⟨g, 0, none⟩) hgl).trans hg1
  have k2 := (hb.cell (p := ⟨g, 1, none⟩) hgl).trans hg2
  have S1 := Lib.hid (R1.out.below hb hb1)
  clear hgr hown hb hg1 hg2
  go_wp2_with fail
  refine wp_loop_rounds 3 ?_
  rw [rounds_succ]
  go_wp2_with (first
    | (at_builtin; refine wpList_append_own _ rfl (.tmp 31) (.tmp 32) 28 rfl w.heap.size 9 i0 _ 1 16 Tryz.underlying28 i1 i2 i3 i4 rfl (by decide) (.slice base 0 cap) 0 [] rfl O1.out ⟨b1, 0, none⟩ P.length c1 (txCells P) rfl (by rw [txCells_len, Nat.mul_one]) (rowS_cells S1.out) (txCells_one P) (by unfold maxLen; omega) (by omega) (by have := B1.out.size; omega) ?_; intro v2 w2 hown2 hgrow2 _))
  have B2 := Lib.hid (B1.out.grown hgrow2 B1.out.size (fun q hq => (World.ownsRow.lt O1.out q hq).1))
  have hown4 : HasT w2 w.heap.size v2 P := by
    unfold HasT
    rw [List.nil_append, Nat.zero_add] at hown2
    exact hown2
  obtain ⟨base2, cap2, rfl, hcap2⟩ := own_formT hown4
  have k3 := (B2.out.cell (p := ⟨g, 0, none⟩) hgl).trans ((B1.out.cell (p := ⟨g, 0, none⟩) hgl).symm.trans k1)
  have k4 := (B2.out.cell (p := ⟨g, 1, none⟩) hgl).trans ((B1.out.cell (p := ⟨g, 1, none⟩) hgl).symm.trans k2)
  have O4 := Lib.hid hown4
  clear hown2 hgrow2 hown4 k1 k2
  rw [rounds_succ]
  go_wp2_with (first | (at_builtin; refine wpList_append_nilT rfl (.tmp 31) (.tmp 32) rfl base2 P.length cap2 hcap2 rfl rfl ?_))
  rw [rounds_succ]
  go_wp2_with fail
  go_ret
  exact ⟨_, rfl, O4.out, B2.out⟩

set_option maxRecDepth 100000 in
set_option maxHeartbeats 2000000 in
theorem concat_noneT (g : Nat) (w : World)
    (hg1 : w.cell? ⟨g, 0, none⟩ = some (.slice none 0 0)) (hg2 : w.cell? ⟨g, 1, none⟩ = some (.slice none 0 0)) :
    Calls Tryz.prog 75 #[.slice (some ⟨g, 0, none⟩) 2 2] w fun e w' => ∃ v, e = .returned v ∧ HasT w' w.heap.size v [] ∧ Below w.heap.size w w' := by
  obtain ⟨i0, i1, i2, i3, i4⟩ := info_parts infoTx
  have hgl : g < w.heap.size := World.block_lt_of_cell? w ⟨g, 0, none⟩ hg1
  have hgr := fun w => grow_anyT (0) (by omega) w
  have GR := Lib.hid hgr
  clear hgr
  go_enter Tryz.func75, Tryz.ntmps75
  go_wp2_with fail
  refine wp_loop_rounds 3 ?_
  rw [rounds_succ]
  go_wp2_with fail
  rw [rounds_succ]
  go_wp2_with fail
  rw [rounds_succ]
  go_wp2_with fail
  have hgr := GR.out w
  try rw [Int.natCast_zero] at hgr
  refine hgr.mono ?_
  rintro e w1 ⟨v, rfl, hown, hb⟩
  obtain ⟨base, cap, rfl, hcap⟩ := own_formT hown
  have O1 := Lib.hid hown
  have B1 := Lib.hid hb
  have k1 := (hb.cell (p := ⟨g, 0, none⟩) hgl).trans hg1
  have k2 := (hb.cell (p := ⟨g, 1, none⟩) hgl).trans hg2
  clear hgr hown hb hg1 hg2
  go_wp2_with fail
  refine wp_loop_rounds 3 ?_
  rw [rounds_succ]
  go_wp2_with (first | (at_builtin; refine wpList_append_nilT rfl (.tmp 31) (.tmp 32) rfl base 0 cap hcap rfl rfl ?_))
  rw [rounds_succ]
  go_wp2_with (first | (at_builtin; refine wpList_append_nilT rfl (.tmp 31) (.tmp 32) rfl base 0 cap hcap rfl rfl ?_))
  rw [rounds_succ]
  go_wp2_with fail
  go_ret
  exact ⟨_, rfl, O1.out, B1.out⟩

/-- slices.Concat of two rows of records. -/
theorem concat_anyT {P Q : List Pth.Bs} {g B C : Nat} {u v : Value} {w w0 : World} (h1 : P.length ≤ 100) (h2 : Q.length ≤ 100)
    (hg1 : w.cell? ⟨g, 0, none⟩ = some u) (hg2 : w.cell? ⟨g, 1, none⟩ = some v) (hP : HasT w B u P) (hQ : HasT w C v Q) :
    Calls Tryz.prog 75 #[.slice (some ⟨g, 0, none⟩) 2 2] w fun e w' => ∃ v, e = .returned v ∧ HasT w' w.heap.size v (P ++ Q) ∧ Below w.heap.size w w' := by
  rcases hP.ways with ⟨rfl, rfl⟩ | ⟨b1, c1, _, rfl, _, hb1, _, _, _, _, r1⟩
  · rcases hQ.ways with ⟨rfl, rfl⟩ | ⟨b2, c2, _, rfl, _, hb2, _, _, _, _, r2⟩
    · exact concat_noneT g w hg1 hg2
    · exact concat_leftT Q g b2 c2 w h2 hg1 hg2 hb2 r2
  · rcases hQ.ways with ⟨rfl, rfl⟩ | ⟨b2, c2, _, rfl, _, hb2, _, _, _, _, r2⟩
    · rw [List.append_nil]
      exact concat_rightT P g b1 c1 w h1 hg1 hg2 hb1 r1
    · exact concat_rowsT P Q g b1 c1 b2 c2 w h1 h2 hg1 hg2 hb1 hb2 r1 r2

end Go.Proofs.YtipajekehbpghaaGreatDoor
