/-
  The walk of PaxOver.
-/
import Derived.Test.YtjafjhhmjfpmoaaDoorPaxQ
import Derived.Test.YtjafjhhmjfpmoaaDoorPaxH
import Derived.Deep.DeepCutAuto
namespace Go.Proofs.YtjafjhhmjfpmoaaDoor
open Go.RowKit

theorem getV_app (a b : List Px.Rec) (x : List UInt8) : Px.getV (a ++ b) x = if b.any (fun p => p.1 == x) then Px.getV b x else Px.getV a x := by
  unfold Px.getV
  rw [Px.lastV_app]
  by_cases h : b.any (fun p => p.1 == x) = true
  · rw [if_pos h]
    cases hb : Px.lastV b x with
    | some v => rfl
    | none =>
      obtain ⟨p, hp, e⟩ := List.any_eq_true.1 h
      exact absurd (eq_of_beq e) (Px.lastV_none.1 hb p hp)
  · rw [if_neg h]
    have hb : Px.lastV b x = none := Px.lastV_none.2 fun p hp e => h (List.any_eq_true.2 ⟨p, hp, by rw [e]; simp⟩)
    rw [hb]; rfl

theorem keep1 {w1 w' : World} {n : Nat} {v : Value} (hb : n + 1 ≤ w1.heap.size) (c : w1.cell? ⟨n, 0, none⟩ = some v) (h : Below w1.heap.size w1 w') : w'.cell? ⟨n, 0, none⟩ = some v ∧ Below w1.heap.size w1 w' :=
  ⟨(h.cell (p := ⟨n, 0, none⟩) (by show n < _; omega)).trans c, h⟩

set_option maxRecDepth 100000 in
theorem over_fn (r : Px.Rec) (K : Nat) (x : ByteArray) (w : World) (hk : w.cell? ⟨K, 0, none⟩ = some (.string x)) :
    Calls Tryd.prog 23 (#[prv (bs r.1) (bs r.2)] ++ #[.pointer (some ⟨K, 0, none⟩)]) w fun e w' => e = .returned (.bool (r.1 == x.data.toList)) ∧ Below w.heap.size w w' := by
  have hK : K < w.heap.size := World.block_lt_of_cell? w ⟨K, 0, none⟩ hk
  have HE := Lib.hid (by rw [Lib.toList_data, Lib.toList_data, bs_list] : ((bs r.1).toList == x.toList) = (r.1 == x.data.toList))
  have hk1 : ∀ o, (w.alloc o).cell? ⟨K, 0, none⟩ = some (.string x) := fun o => by
    rw [← hk]; exact ((Below.refl _ w).alloc (Nat.le_refl _) o).cell (p := ⟨K, 0, none⟩) hK
  clear hk
  unfold prv
  go_enter Tryd.func23, Tryd.ntmps23
  go_wp2_with fail
  have hk2 := hk1 (.cells #[.string (bs r.1), .string (bs r.2)] 32)
  clear hk1
  go_wp2_with fail
  go_ret
  exact ⟨by rw [← HE.out]; rfl, (Below.refl _ _).alloc (Nat.le_refl _) _⟩

set_option maxRecDepth 100000 in
set_option maxHeartbeats 4000000 in
theorem paxOver_main (u v : Value) (a b : List Px.Rec) (key : ByteArray) (w : World) (hE : Env w) (hu0 : PairsIn w u a) (hv0 : PairsIn w v b) :
    Calls Tryd.prog 6 #[u, v, .string key] w fun e w' => e = .returned (.bool true) ∧ Below w.heap.size w w' := by
  obtain ⟨X, cu, rfl⟩ := hu0.form
  obtain ⟨Y, cv, rfl⟩ := hv0.form
  have HU := Lib.hid hu0
  have HV := Lib.hid hv0
  have hai : (0 : Int) ≤ a.length := by omega
  have hbi : (0 : Int) ≤ b.length := by omega
  have RC := Lib.hid (fun w' (h : Below w.heap.size w w') => recorded_any w' (hE.below h))
  have hkb := Boxed.new w 9 (.string key)
  have B0 := Lib.hid ((Below.refl _ w).alloc (Nat.le_refl _) (.cells #[.string key] 9))
  have hz0 : (w.alloc (.cells #[.string key] 9)).heap.size = w.heap.size + 1 := by simp
  clear hE hu0 hv0
  by_cases ha : a.length ≤ 20
  rotate_left
  · have haI : (20 : Int) < a.length := by omega
    go_enter Tryd.func6, Tryd.ntmps6
    go_wp2_with fail
    refine (RC.out _ B0.out).mono ?_
    rintro e w1 ⟨rfl, h1⟩
    have B1 := Lib.hid (thenB B0.out h1)
    clear h1
    go_wp2_with fail
    go_ret
    exact ⟨rfl, B1.out⟩
  by_cases hb : b.length ≤ 20
  rotate_left
  · have haI : (a.length : Int) ≤ 20 := by omega
    have hbI : (20 : Int) < b.length := by omega
    go_enter Tryd.func6, Tryd.ntmps6
    go_wp2_with fail
    refine (RC.out _ B0.out).mono ?_
    rintro e w1 ⟨rfl, h1⟩
    have B1 := Lib.hid (thenB B0.out h1)
    clear h1
    go_wp2_with fail
    go_ret
    exact ⟨rfl, B1.out⟩
  have haI : (a.length : Int) ≤ 20 := by omega
  have hbI : (b.length : Int) ≤ 20 := by omega
  go_enter Tryd.func6, Tryd.ntmps6
  go_wp2_with fail
  refine (RC.out _ B0.out).mono ?_
  rintro e w1 ⟨rfl, h1⟩
  have B1 := Lib.hid (thenB B0.out h1)
  have c0 : w1.cell? ⟨w.heap.size, 0, none⟩ = some (.string key) := (h1.cell (p := ⟨w.heap.size, 0, none⟩) (by simp)).trans hkb.cell
  have hz1 : w.heap.size + 1 ≤ w1.heap.size := by have := h1.size; omega
  clear h1 hkb
  have MGc := Lib.hid (fun (w' : World) (g : Nat) (h : Below w.heap.size w w') (k0 : w'.cell? ⟨g, 0, none⟩ = some (.slice X a.length cu)) (k1 : w'.cell? ⟨g, 1, none⟩ = some (.slice Y b.length cv)) =>
    merge_any g [a, b] w' (World.block_lt_of_cell? w' ⟨g, 0, none⟩ k0) (lists_two k0 k1 (HU.out.below h) (HV.out.below h)) (by simp) (by simp; omega))
  have al : ∀ T, ((w1.alloc (.cells #[.slice X a.length cu, .slice Y b.length cv] T)).drew).cell? ⟨w1.heap.size, 0, none⟩ = some (.slice X a.length cu) ∧ ((w1.alloc (.cells #[.slice X a.length cu, .slice Y b.length cv] T)).drew).cell? ⟨w1.heap.size, 1, none⟩ = some (.slice Y b.length cv) := fun T =>
    ⟨(Blk.new w1 T #[.slice X a.length cu, .slice Y b.length cv]).cell 0, (Blk.new w1 T #[.slice X a.length cu, .slice Y b.length cv]).cell 1⟩
  have AL := Lib.hid al
  clear al
  go_wp2_with fail
  have hsz := Lib.hid (sizes_app HU.out.sizes HV.out.sizes)
  have bw1 := Below.refl w1.heap.size w1
  have GTc := Lib.hid (fun (w' : World) (B : Nat) (r : Value) (M : List Px.Rec) (hr : HasR w' B r M) (hM : Px.IsMerge [a, b].flatten M) => get_any r M key w' (merge_in hr (by simpa using hM) (by simp; omega) hsz.out))
  clear hsz
  go_cut [0, 1, 5, 7, 8] (fun s0 s1 s5 s7 s8 wx => ∃ M, s0 = .slice X a.length cu ∧ s1 = .slice Y b.length cv ∧ s5 = .pointer (some ⟨w.heap.size, 0, none⟩) ∧ s7 = .string (bs (Px.getV M key.data.toList).1) ∧ s8 = .bool (Px.getV M key.data.toList).2 ∧ Px.IsMerge [a, b].flatten M ∧ wx.cell? ⟨w.heap.size, 0, none⟩ = some (.string key) ∧ Below w1.heap.size w1 wx)
  case first =>
    go_region_held3 (fun w' => w'.cell? ⟨w.heap.size, 0, none⟩ = some (.string key) ∧ Below w1.heap.size w1 w')
      (first
        | (go_split_ands; refine keep1 hz1 c0 ?_; first
          | with_reducible assumption
          | with_reducible exact Below.drew bw1
          | with_reducible exact Below.drew (Below.alloc bw1 (Nat.le_refl _) _)
          | with_reducible exact TB
          | with_reducible exact thenB TB (by assumption))
        | (trace_state; fail))
      (first
      | (go_at_call 21; go_split_ands; refine (MGc.out _ _ (thenB B1.out (by with_reducible assumption)) (AL.out _).1 (AL.out _).2).mono ?_; rintro e wt ⟨r, M, rfl, hM, hr, TT⟩; have TB : Below w1.heap.size w1 wt := (by with_reducible exact thenB (by assumption) TT))
      | (go_at_call 22; go_split_ands; refine (GTc.out _ _ _ _ hr hM).mono ?_; rintro e wu ⟨rfl, TU⟩))
    all_goals go_split_ands
    all_goals go_wp2_with fail
    all_goals go_meet
    all_goals exact ⟨M, rfl, rfl, rfl, rfl, rfl, hM, (keep1 hz1 c0 (thenB TB TU)).1, thenB TB TU⟩
  case rest =>
    obtain ⟨M, rfl, rfl, rfl, rfl, rfl, hM, c1, hb1⟩ := hcut
    have B2 := Lib.hid (B1.out.trans (hb1.mono (by omega)))
    have hget := hM.get key.data.toList
    rw [show [a, b].flatten = a ++ b by simp, getV_app] at hget
    have HK := Lib.hid (fun w' (h : Below wc.heap.size wc w') => (h.cell (p := ⟨w.heap.size, 0, none⟩) (World.block_lt_of_cell? wc ⟨w.heap.size, 0, none⟩ c1)).trans c1)
    have CT := Lib.hid (contains_in (HV.out.below B2.out) (fun p => p.1 == key.data.toList) 23 #[.pointer (some ⟨w.heap.size, 0, none⟩)] (fun args w => by go_simp) (by omega) (fun r _ w' h => over_fn r w.heap.size key w' (HK.out w' h)))
    clear GTc MGc AL c0 hb1 hM c1
    by_cases hk : (b.any fun p => p.1 == key.data.toList) = true
    · rw [if_pos hk] at hget
      rw [hget]
      have GB := Lib.hid (fun w' (h : Below w.heap.size w w') => get_any _ b key w' (HV.out.below h))
      obtain ⟨q, hq⟩ : ∃ q, q = b.any (fun p => p.1 == key.data.toList) := ⟨_, rfl⟩
      rw [← hq] at CT
      rw [← hq] at hk
      subst hk
      obtain ⟨G, hG⟩ : ∃ G, G = Px.getV b key.data.toList := ⟨_, rfl⟩
      rw [← hG] at GB ⊢
      obtain ⟨s, t⟩ := G
      clear hG hget hq
      go_wp2_with fail
      refine CT.out.mono ?_
      rintro e w3 ⟨rfl, h3⟩
      have B3 := Lib.hid (thenB B2.out h3)
      have c3 := HK.out _ h3
      clear h3
      go_wp2_with fail
      refine (GB.out _ B3.out).mono ?_
      rintro e w4 ⟨rfl, h4⟩
      have B4 := Lib.hid (thenB B3.out h4)
      clear h4
      go_wp2_with fail
      go_ret
      exact ⟨by simp, B4.out⟩
    · rw [if_neg hk] at hget
      rw [hget]
      have GB := Lib.hid (fun w' (h : Below w.heap.size w w') => get_any _ a key w' (HU.out.below h))
      obtain ⟨q, hq⟩ : ∃ q, q = b.any (fun p => p.1 == key.data.toList) := ⟨_, rfl⟩
      rw [← hq] at CT
      rw [← hq] at hk
      obtain rfl : q = false := by simpa using hk
      obtain ⟨G, hG⟩ : ∃ G, G = Px.getV a key.data.toList := ⟨_, rfl⟩
      rw [← hG] at GB ⊢
      obtain ⟨s, t⟩ := G
      clear hG hget hq hk
      go_wp2_with fail
      refine CT.out.mono ?_
      rintro e w3 ⟨rfl, h3⟩
      have B3 := Lib.hid (thenB B2.out h3)
      have c3 := HK.out _ h3
      clear h3
      go_wp2_with fail
      refine (GB.out _ B3.out).mono ?_
      rintro e w4 ⟨rfl, h4⟩
      have B4 := Lib.hid (thenB B3.out h4)
      clear h4
      go_wp2_with fail
      go_ret
      exact ⟨by simp, B4.out⟩

set_option maxRecDepth 100000 in
theorem paxOver_walk {H : Type} {enc : TypeId × Value → H} {w : World} {d1 d2 : DataW H} {ps1 ps2 : List MemPlace} {base1 base2 : Nat}
    (va : Value) (hok1 : Value.okWide Tryd.prog w .any base1 23 va) (h1 : DataW.Trod enc Tryd.prog w 0 (fun _ => true) true 23 va d1 ps1) (hz1 : ∀ n ∈ d1.weights Tryd.prog 23, n ≤ reachBytes)
    (vb : Value) (hok2 : Value.okWide Tryd.prog w .any base2 23 vb) (h2 : DataW.Trod enc Tryd.prog w 0 (fun _ => true) true 23 vb d2 ps2) (hz2 : ∀ n ∈ d2.weights Tryd.prog 23, n ≤ reachBytes)
    (key : ByteArray) (_hk : key.size ≤ 140737488351232) (hE : Env w) :
    Calls Tryd.prog 6 #[va, vb, .string key] w fun e w' => e = .returned (.bool true) ∧ Below w.heap.size w w' := by
  obtain ⟨a, ha⟩ := pairs_of hok1 h1 hz1
  obtain ⟨b, hb⟩ := pairs_of hok2 h2 hz2
  exact paxOver_main va vb a b key w hE ha hb

end Go.Proofs.YtjafjhhmjfpmoaaDoor
