/-
  The walk of PaxApart.
-/
import Derived.Test.YtjafjhhmjfpmoaaDoorPaxQ
import Derived.Test.YtjafjhhmjfpmoaaDoorPaxH
import Derived.Test.YtjafjhhmjfpmoaaDoorPaxF
import Derived.Deep.DeepCutAuto
namespace Go.Proofs.YtjafjhhmjfpmoaaDoor
open Go.RowKit

theorem lastV_comm {a b : List Px.Rec} (h : (a.any fun p => b.any fun q => p.1 == q.1) = false) (x : List UInt8) : Px.lastV [a, b].flatten x = Px.lastV [b, a].flatten x := by
  rw [show [a, b].flatten = a ++ b by simp, show [b, a].flatten = b ++ a by simp, Px.lastV_app, Px.lastV_app]
  cases ha : Px.lastV a x with
  | none => simp
  | some u =>
    cases hb : Px.lastV b x with
    | none => simp
    | some v =>
      have := List.any_eq_false.1 h _ (Px.lastV_mem ha)
      exact absurd (List.any_eq_true.2 ⟨_, Px.lastV_mem hb, by simp⟩) this

set_option maxRecDepth 100000 in
theorem apart_fn2 (p r : Px.Rec) (K : Nat) (w : World) (hk : w.cell? ⟨K, 0, none⟩ = some (.string (bs p.1))) :
    Calls Tryd.prog 20 (#[prv (bs r.1) (bs r.2)] ++ #[.pointer (some ⟨K, 0, none⟩)]) w fun e w' => e = .returned (.bool (p.1 == r.1)) ∧ Below w.heap.size w w' := by
  have hK : K < w.heap.size := World.block_lt_of_cell? w ⟨K, 0, none⟩ hk
  have HE := Lib.hid (by rw [Lib.toList_data, Lib.toList_data, bs_list, bs_list] : ((bs p.1).toList == (bs r.1).toList) = (p.1 == r.1))
  have hk1 : ∀ o, (w.alloc o).cell? ⟨K, 0, none⟩ = some (.string (bs p.1)) := fun o => by
    rw [← hk]; exact ((Below.refl _ w).alloc (Nat.le_refl _) o).cell (p := ⟨K, 0, none⟩) hK
  clear hk
  unfold prv
  go_enter Tryd.func20, Tryd.ntmps20
  go_wp2_with fail
  have hk2 := hk1 (.cells #[.string (bs r.1), .string (bs r.2)] 32)
  clear hk1
  go_wp2_with fail
  go_ret
  exact ⟨by rw [← HE.out]; rfl, (Below.refl _ _).alloc (Nat.le_refl _) _⟩

set_option maxRecDepth 100000 in
theorem apart_fn (p : Px.Rec) (b : List Px.Rec) (Y : Option Addr) (cv K : Nat) (w : World) (hb : b.length ≤ 20) (hk : w.cell? ⟨K, 0, none⟩ = some (.slice Y b.length cv)) (hY : PairsIn w (.slice Y b.length cv) b) :
    Calls Tryd.prog 19 (#[prv (bs p.1) (bs p.2)] ++ #[.pointer (some ⟨K, 0, none⟩)]) w fun e w' => e = .returned (.bool (b.any fun q => p.1 == q.1)) ∧ Below w.heap.size w w' := by
  have hK : K < w.heap.size := World.block_lt_of_cell? w ⟨K, 0, none⟩ hk
  have B0 := (Below.refl _ w).alloc (Nat.le_refl _) (.cells #[.string (bs p.1), .string (bs p.2)] 32)
  have hk1 : (w.alloc (.cells #[.string (bs p.1), .string (bs p.2)] 32)).cell? ⟨K, 0, none⟩ = some (.slice Y b.length cv) := by
    rw [← hk]; exact B0.cell (p := ⟨K, 0, none⟩) hK
  have hb1 := Blk.new w 32 #[.string (bs p.1), .string (bs p.2)]
  have hY1 := hY.below B0
  have B1 := Lib.hid B0
  have CT := Lib.hid (contains_in hY1 (fun q => p.1 == q.1) 20 #[.pointer (some ⟨w.heap.size, 0, none⟩)] (fun args w => by go_simp) (by omega) (fun r _ w' h => apart_fn2 p r w.heap.size w' ((h.cell (p := ⟨w.heap.size, 0, none⟩) (by simp)).trans (hb1.cell 0))))
  clear hk hb1 hY1 B0 hY
  obtain ⟨q, hq⟩ : ∃ q, q = b.any (fun q => p.1 == q.1) := ⟨_, rfl⟩
  rw [← hq] at CT
  rw [← hq]
  clear hq
  unfold prv
  go_enter Tryd.func19, Tryd.ntmps19
  go_wp2_with fail
  refine CT.out.mono ?_
  rintro e w2 ⟨rfl, h2⟩
  have B2 := Lib.hid (thenB B1.out h2)
  clear h2
  go_wp2_with fail
  go_ret
  exact ⟨rfl, B2.out⟩

theorem merge_two {u v : Value} {a b : List Px.Rec} (w' : World) (g : Nat) (hu : PairsIn w' u a) (hv : PairsIn w' v b) (ha : a.length ≤ 20) (hb : b.length ≤ 20) (k : w'.cell? ⟨g, 0, none⟩ = some u ∧ w'.cell? ⟨g, 1, none⟩ = some v) :
    Calls Tryd.prog 21 #[.slice (some ⟨g, 0, none⟩) 2 2] w' fun e w'' => ∃ v M, e = .returned v ∧ Px.IsMerge [a, b].flatten M ∧ HasR w'' w'.heap.size v M ∧ Below w'.heap.size w' w'' :=
  merge_any g [a, b] w' (World.block_lt_of_cell? w' ⟨g, 0, none⟩ k.1) (lists_two k.1 k.2 hu hv) (by simp) (by simp; omega)
theorem alo1 (w : World) (u v : Value) (T : TypeId) : ((w.alloc (.cells #[u, v] T)).drew).cell? ⟨w.heap.size, 0, none⟩ = some u ∧ ((w.alloc (.cells #[u, v] T)).drew).cell? ⟨w.heap.size, 1, none⟩ = some v :=
  ⟨(Blk.new w T #[u, v]).cell 0, (Blk.new w T #[u, v]).cell 1⟩
theorem alo2 (w : World) (u v : Value) (T : TypeId) (o : Obj) : (((w.alloc (.cells #[u, v] T)).alloc o).drew).cell? ⟨w.heap.size, 0, none⟩ = some u ∧ (((w.alloc (.cells #[u, v] T)).alloc o).drew).cell? ⟨w.heap.size, 1, none⟩ = some v :=
  ⟨((Blk.new w T #[u, v]).alloc o).cell 0, ((Blk.new w T #[u, v]).alloc o).cell 1⟩
theorem alo3 (w : World) (u v : Value) (T : TypeId) (o : Obj) : (((w.alloc o).alloc (.cells #[u, v] T)).drew).cell? ⟨w.heap.size + 1, 0, none⟩ = some u ∧ (((w.alloc o).alloc (.cells #[u, v] T)).drew).cell? ⟨w.heap.size + 1, 1, none⟩ = some v := by
  have h := Blk.new (w.alloc o) T #[u, v]
  rw [World.size_alloc] at h
  exact ⟨h.cell 0, h.cell 1⟩
theorem alo4 (w : World) (u v : Value) (T : TypeId) : (w.alloc (.cells #[u, v] T)).cell? ⟨w.heap.size, 0, none⟩ = some u ∧ (w.alloc (.cells #[u, v] T)).cell? ⟨w.heap.size, 1, none⟩ = some v :=
  ⟨(Blk.new w T #[u, v]).cell 0, (Blk.new w T #[u, v]).cell 1⟩
theorem alo5 {w w1 : World} {g : Nat} {u v : Value} (h : w.cell? ⟨g, 0, none⟩ = some u ∧ w.cell? ⟨g, 1, none⟩ = some v) (hb : Below w.heap.size w w1) : w1.cell? ⟨g, 0, none⟩ = some u ∧ w1.cell? ⟨g, 1, none⟩ = some v := by
  have hg := World.block_lt_of_cell? w ⟨g, 0, none⟩ h.1
  exact ⟨(hb.cell (p := ⟨g, 0, none⟩) hg).trans h.1, (hb.cell (p := ⟨g, 1, none⟩) hg).trans h.2⟩
theorem below_alloc1 {a w : World} (h : Below a.heap.size a w) (o : Obj) : Below a.heap.size a (w.alloc o) := h.alloc h.size o
theorem keep1a {w1 w' : World} {n : Nat} {v : Value} (hb : n + 1 ≤ w1.heap.size) (c : w1.cell? ⟨n, 0, none⟩ = some v) (h : Below w1.heap.size w1 w') : w'.cell? ⟨n, 0, none⟩ = some v ∧ Below w1.heap.size w1 w' :=
  ⟨(h.cell (p := ⟨n, 0, none⟩) (by show n < _; omega)).trans c, h⟩
theorem HasR.laterA {w w' : World} {B : Nat} {v : Value} {l : List Px.Rec} {o : Obj} (h : HasR w B v l) (hb : Below (w.alloc o).heap.size (w.alloc o) w') : HasR w' B v l := (h.later ((Below.refl _ _).alloc (Nat.le_refl _) o)).later hb

set_option maxRecDepth 100000 in
set_option maxHeartbeats 4000000 in
theorem paxApart_main (u v : Value) (a b : List Px.Rec) (w : World) (hE : Env w) (hu0 : PairsIn w u a) (hv0 : PairsIn w v b) :
    Calls Tryd.prog 5 #[u, v] w fun e w' => e = .returned (.bool true) ∧ Below w.heap.size w w' := by
  obtain ⟨X, cu, rfl⟩ := hu0.form
  obtain ⟨Y, cv, rfl⟩ := hv0.form
  have HU := Lib.hid hu0
  have HV := Lib.hid hv0
  have hai : (0 : Int) ≤ a.length := by omega
  have hbi : (0 : Int) ≤ b.length := by omega
  have RC := Lib.hid (fun w' (h : Below w.heap.size w w') => recorded_any w' (hE.below h))
  have hkb := Boxed.new w 23 (.slice Y b.length cv)
  have B0 := Lib.hid ((Below.refl _ w).alloc (Nat.le_refl _) (.cells #[.slice Y b.length cv] 23))
  have hz0 : (w.alloc (.cells #[.slice Y b.length cv] 23)).heap.size = w.heap.size + 1 := by simp
  clear hE hu0 hv0
  by_cases ha : a.length ≤ 20
  rotate_left
  · have haI : (20 : Int) < a.length := by omega
    go_enter Tryd.func5, Tryd.ntmps5
    go_wp2_with fail
    refine (RC.out _ B0.out).mono ?_
    rintro e w1 ⟨rfl, h1⟩
    have B1 := Lib.hid (thenB B0.out h1)
    clear h1
    go_wp2_with fail
    go_ret
    exact ⟨rfl, B1.out⟩
  by_cases hb : b.length ≤ 20
  rotate_left
  · have haI : (a.length : Int) ≤ 20 := by omega
    have hbI : (20 : Int) < b.length := by omega
    go_enter Tryd.func5, Tryd.ntmps5
    go_wp2_with fail
    refine (RC.out _ B0.out).mono ?_
    rintro e w1 ⟨rfl, h1⟩
    have B1 := Lib.hid (thenB B0.out h1)
    have c0 : w1.cell? ⟨w.heap.size, 0, none⟩ = some (.slice Y b.length cv) := (h1.cell (p := ⟨w.heap.size, 0, none⟩) (by simp)).trans hkb.cell
    clear h1
    go_wp2_with fail
    go_ret
    exact ⟨rfl, B1.out⟩
  have haI : (a.length : Int) ≤ 20 := by omega
  have hbI : (b.length : Int) ≤ 20 := by omega
  go_enter Tryd.func5, Tryd.ntmps5
  go_wp2_with fail
  refine (RC.out _ B0.out).mono ?_
  rintro e w1 ⟨rfl, h1⟩
  have B1 := Lib.hid (thenB B0.out h1)
  have c0 : w1.cell? ⟨w.heap.size, 0, none⟩ = some (.slice Y b.length cv) := (h1.cell (p := ⟨w.heap.size, 0, none⟩) (by simp)).trans hkb.cell
  have hz1 : w.heap.size + 1 ≤ w1.heap.size := by have := h1.size; omega
  clear h1 hkb
  have HK := Lib.hid (fun w' (h : Below w1.heap.size w1 w') => (h.cell (p := ⟨w.heap.size, 0, none⟩) (World.block_lt_of_cell? w1 ⟨w.heap.size, 0, none⟩ c0)).trans c0)
  have CT := Lib.hid (contains_in (HU.out.below B1.out) (fun p => b.any fun q => p.1 == q.1) 19 #[.pointer (some ⟨w.heap.size, 0, none⟩)] (fun args w => by go_simp) (by omega) (fun r _ w' h => apart_fn r b Y cv w.heap.size w' hb (HK.out w' h) (HV.out.below (B1.out.trans (h.mono (by omega))))))
  have HEQ := Lib.hid (fun (h : (a.any fun p => b.any fun q => p.1 == q.1) = false) (M M' : List Px.Rec) (h1 : Px.IsMerge [a, b].flatten M) (h2 : Px.IsMerge [b, a].flatten M') => (Px.merge_unique h1 h2 (lastV_comm h) : M = M'))
  obtain ⟨q, hq⟩ : ∃ q, q = a.any (fun p => b.any fun q => p.1 == q.1) := ⟨_, rfl⟩
  rw [← hq] at CT HEQ
  clear hq
  cases q
  rotate_left
  · go_wp2_with fail
    refine CT.out.mono ?_
    rintro e w2 ⟨rfl, h2⟩
    have B2 := Lib.hid (thenB B1.out h2)
    clear h2
    go_wp2_with fail
    go_ret
    exact ⟨rfl, B2.out⟩
  have HEQ2 := Lib.hid (HEQ.out rfl)
  clear HEQ
  go_wp2_with fail
  refine CT.out.mono ?_
  rintro e w2 ⟨rfl, h2⟩
  have B2 := Lib.hid (thenB B1.out h2)
  have c2 := HK.out _ h2
  have hz2 : w.heap.size + 1 ≤ w2.heap.size := by have := h2.size; omega
  clear h2 HK CT c0
  have MGA := Lib.hid (fun (w' : World) (g : Nat) (h : Below w.heap.size w w') (k : w'.cell? ⟨g, 0, none⟩ = some (.slice X a.length cu) ∧ w'.cell? ⟨g, 1, none⟩ = some (.slice Y b.length cv)) => merge_two w' g (HU.out.below h) (HV.out.below h) ha hb k)
  have MGB := Lib.hid (fun (w' : World) (g : Nat) (h : Below w.heap.size w w') (k : w'.cell? ⟨g, 0, none⟩ = some (.slice Y b.length cv) ∧ w'.cell? ⟨g, 1, none⟩ = some (.slice X a.length cu)) => merge_two w' g (HV.out.below h) (HU.out.below h) hb ha k)
  have HML := Lib.hid (fun (M : List Px.Rec) (h : Px.IsMerge [b, a].flatten M) => (by have := merge_len h; simp at this; omega : M.length ≤ 100))
  have bw1 := Below.refl w2.heap.size w2
  go_wp2_with fail
  go_region_held3 (fun w' => w'.cell? ⟨w.heap.size, 0, none⟩ = some (.slice Y b.length cv) ∧ Below w2.heap.size w2 w')
    (first
      | (go_split_ands; refine keep1a hz2 c2 ?_; (repeat' (first
        | with_reducible assumption
        | with_reducible refine Below.drew ?_
        | with_reducible refine below_alloc1 ?_ _
        | with_reducible refine thenB ?_ TB
        | with_reducible refine thenB ?_ TA)); done))
    (first
    | (go_at_call 21; go_split_ands; (with_reducible refine (MGA.out _ _ (thenB B2.out (by with_reducible assumption)) (by first | with_reducible exact alo1 _ _ _ _ | with_reducible exact alo2 _ _ _ _ _ | with_reducible exact alo3 _ _ _ _ _ | with_reducible exact alo4 _ _ _ _ | with_reducible exact alo5 (alo2 _ _ _ _ _) TB | with_reducible exact alo5 (alo3 _ _ _ _ _) TB | fail)).mono ?_); rintro e wt ⟨rA, MA, rfl, hMA, hrA, TA⟩; have TBA : Below w2.heap.size w2 wt := (by with_reducible exact thenB (by assumption) TA))
    | (go_at_call 21; go_split_ands; (with_reducible refine (MGB.out _ _ (thenB B2.out (by with_reducible assumption)) (by first | with_reducible exact alo1 _ _ _ _ | with_reducible exact alo2 _ _ _ _ _ | with_reducible exact alo3 _ _ _ _ _ | with_reducible exact alo4 _ _ _ _ | with_reducible exact alo5 (alo2 _ _ _ _ _) TA | with_reducible exact alo5 (alo3 _ _ _ _ _) TA | fail)).mono ?_); rintro e wt ⟨rB, MB, rfl, hMB, hrB, TB⟩; have TBB : Below w2.heap.size w2 wt := (by with_reducible exact thenB (by assumption) TB))
    | (go_at_call 11; go_split_ands; obtain rfl := HEQ2.out _ _ hMA hMB; refine (eq_same (by first | with_reducible exact hrA | with_reducible exact hrA.later TB | with_reducible exact hrA.laterA TB | fail) (by first | with_reducible exact hrB | with_reducible exact hrB.later TA | with_reducible exact hrB.laterA TA | fail) (HML.out _ hMB)).mono ?_; rintro e wt ⟨rfl, TE⟩; have TBE : Below w2.heap.size w2 wt := (by with_reducible exact thenB (by assumption) TE)))
  all_goals go_split_ands
  all_goals go_wp2_with fail
  all_goals go_ret
  all_goals exact ⟨rfl, thenB B2.out TBE⟩

set_option maxRecDepth 100000 in
theorem paxApart_walk {H : Type} {enc : TypeId × Value → H} {w : World} {d1 d2 : DataW H} {ps1 ps2 : List MemPlace} {base1 base2 : Nat}
    (va : Value) (hok1 : Value.okWide Tryd.prog w .any base1 23 va) (h1 : DataW.Trod enc Tryd.prog w 0 (fun _ => true) true 23 va d1 ps1) (hz1 : ∀ n ∈ d1.weights Tryd.prog 23, n ≤ reachBytes)
    (vb : Value) (hok2 : Value.okWide Tryd.prog w .any base2 23 vb) (h2 : DataW.Trod enc Tryd.prog w 0 (fun _ => true) true 23 vb d2 ps2) (hz2 : ∀ n ∈ d2.weights Tryd.prog 23, n ≤ reachBytes) (hE : Env w) :
    Calls Tryd.prog 5 #[va, vb] w fun e w' => e = .returned (.bool true) ∧ Below w.heap.size w w' := by
  obtain ⟨a, ha⟩ := pairs_of hok1 h1 hz1
  obtain ⟨b, hb⟩ := pairs_of hok2 h2 hz2
  exact paxApart_main va vb a b w hE ha hb

end Go.Proofs.YtjafjhhmjfpmoaaDoor
