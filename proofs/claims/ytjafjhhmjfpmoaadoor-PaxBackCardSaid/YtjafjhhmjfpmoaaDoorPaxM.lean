/-
  The reference's fair: the first ten records of a list, those that may be.
-/
import Derived.Test.YtjafjhhmjfpmoaaDoorPaxL
import Derived.Test.YtjafjhhmjfpmoaaDoorPaxH
import Derived.Shelf.SlicesE.Clone
namespace Go.Proofs
open Go.Shelf
def Tryd.lays_clone_ren : Go.Shelf.Ren := ⟨fun | 41 => 33 | n => n, fun | 22 => 23 | 23 => 32 | 4 => 4 | n => n, fun | n => n⟩
theorem Tryd.lays_clone : Go.Proofs.SlLaysE0.n41 Tryd.prog Tryd.lays_clone_ren := {
  mixed := by kernel_rfl
  f41 := ⟨Tryd.f33.name, by decide, Tryd.func33.trans (congrArg some (by kernel_rfl))⟩
  t4 := Tryd.underlying4
  a4 := Tryd.isAgg4
  z4 := Tryd.sizeOf4
  v4 := Tryd.zeroValue4
  t22 := Tryd.underlying23
  a22 := Tryd.isAgg23
  z22 := Tryd.sizeOf23
  v22 := Tryd.zeroValue23 }
end Go.Proofs
namespace Go.Proofs.YtjafjhhmjfpmoaaDoor
open Go.RowKit

theorem clone_rows (l : List Px.Rec) (b off c : Nat) (w : World) (hrow : RowR w b off l) (hl : l.length ≤ 1000000) :
    Calls Tryd.prog 33 #[.slice (some ⟨b, off, none⟩) l.length c] w fun e w' => ∃ v, e = .returned v ∧ HasR w' w.heap.size v l ∧ Below w.heap.size w w' := by
  obtain ⟨i0, i1, i2, i3, i4⟩ := info_parts infoRc
  refine (AnyE.slices_Clone Tryd.lays_clone i0 _ 2 32 i1 i2 i3 i4 rfl (by decide) Tryd.sizeOf32 b off l.length c (rcCells l) w (rcCells_len l) (by unfold maxLen; omega) (by omega) (fun j u hj => ?_) (rcCells_one l)).mono fun e w' ⟨v, he, ho, _, hb⟩ => ⟨v, he, ho, hb⟩
  have := hrow.cells j u hj
  have hplain : (⟨b, off, none⟩ : Addr).add j = ⟨b, off + j, none⟩ := by unfold Addr.add; split <;> simp_all
  rwa [hplain] at this
theorem clone_none (n c : Nat) (w : World) : Calls Tryd.prog 33 #[.slice none n c] w fun e w' => e = .returned (.slice none 0 0) ∧ w' = w :=
  AnyE.slices_Clone_nil Tryd.lays_clone n c w

/-- What fair strikes. -/
def unfair (r : Px.Rec) : Bool := decide (300 < r.1.length + r.2.length) || !Px.right r
theorem unfair_is (r : Px.Rec) : (!unfair r) = Px.right r := by
  unfold unfair
  cases h : Px.right r
  · simp
  · have := (Px.right_bounds h).2.1
    simp; omega

set_option maxRecDepth 100000 in
set_option maxHeartbeats 2000000 in
theorem unfair_any (k v : ByteArray) (hk : k.size ≤ 140737488351232) (hv : v.size ≤ 140737488351232) (w : World) :
    Calls Tryd.prog 34 #[prv k v] w fun e w' => e = .returned (.bool (unfair (k.data.toList, v.data.toList))) ∧ Below w.heap.size w w' := by
  have e0 : unfair (k.data.toList, v.data.toList) = (decide (300 < k.size + v.size) || !Px.right (k.data.toList, v.data.toList)) := by
    unfold unfair; rw [list_size, list_size]
  rw [e0]
  by_cases h : 300 < k.size + v.size
  · have hi : (300 : Int) < (k.size : Int) + v.size := by omega
    have hd : decide (300 < k.size + v.size) = true := by simpa using h
    rw [hd]
    clear hd h e0
    unfold prv
    go_enter Tryd.func34, Tryd.ntmps34
    go_wp2_with fail
    go_ret
    exact ⟨rfl, (Below.refl _ _).alloc (Nat.le_refl _) _⟩
  · have hi : ¬ (300 : Int) < (k.size : Int) + v.size := by omega
    have hd : decide (300 < k.size + v.size) = false := by simpa using h
    have rg := Lib.hid (fun w' => right_any k v (by omega) (by omega) w')
    rw [hd]
    clear hd h e0
    unfold prv at *
    go_enter Tryd.func34, Tryd.ntmps34
    go_wp2_with fail
    refine (rg.out _).mono ?_
    rintro e w1 ⟨rfl, h1⟩
    have B1 := Lib.hid (thenB ((Below.refl _ w).alloc (Nat.le_refl _) _) h1)
    clear h1
    go_wp2_with fail
    go_ret
    exact ⟨by simp, B1.out⟩

set_option maxRecDepth 100000 in
/-- Clone of nothing, wherever it lies. -/
theorem clone_empty (a : Addr) (c : Nat) (w : World) : Calls Tryd.prog 33 #[.slice (some a) 0 c] w fun e w' => ∃ v, e = .returned v ∧ HasR w' w.heap.size v [] ∧ Below w.heap.size w w' := by
  obtain ⟨i0, i1, i2, i3, i4⟩ := info_parts infoRc
  have q22 := fun (w : World) (a : Option Addr) (n c n' c' : Nat) => Lib.run_eql_slice_nil (P := Tryd.prog) w _ _ a n c n' c' Tryd.underlying23
  go_enter Tryd.func33, Tryd.ntmps33
  go_wp2_with (first
    | (at_builtin; refine wpList_append_own _ rfl _ _ 23 rfl w.heap.size 32 i0 _ 2 32 Tryd.underlying23 i1 i2 i3 i4 rfl (by decide) _ _ _ rfl (World.ownsRow_made w #[] 0 (Nat.le_refl _) (Nat.zero_le _) (by simp)) a 0 c [] rfl rfl (fun j u hu => by cases hu) (fun u hu => by cases hu) (by unfold maxLen; omega) (by omega) (by simp) ?_; intro v' w1 hown hgrow hnil))
  have O1 := Lib.hid hown
  have G1 := Lib.hid hgrow
  clear hown hgrow hnil
  go_wp2_with fail
  go_ret
  refine ⟨_, rfl, by have := O1.out; simpa [HasR, rcCells] using this, ?_⟩
  exact ((Below.refl _ w).alloc (Nat.le_refl _) _).grown G1.out (by simp) (by intro k hk; have hk2 : some w.heap.size = some k := hk; cases hk2; omega)

/-- The records that fair leaves. -/
def fairL (l : List Px.Rec) : List Px.Rec := (l.take 10).filter Px.right
theorem fair_is (l : List Px.Rec) : ((l.take 10).filter fun r => !unfair r) = fairL l := by
  unfold fairL
  congr 1
  funext r
  exact unfair_is r

theorem fair_end {l : List Px.Rec} {w w0 : World} {v : Value} {B : Nat} (hB : w0.heap.size ≤ B) (hbe : Below w0.heap.size w0 w) (hs : ∀ r ∈ l, r.1.length ≤ 140737488351232 ∧ r.2.length ≤ 140737488351232) (h : HasR w B v (l.take 10)) :
    Calls Tryd.prog 32 #[v, .func (.func 34) #[] #[]] w fun e w' => ∃ v', e = .returned v' ∧ HasR w' w0.heap.size v' (fairL l) ∧ Below w0.heap.size w0 w' := by
  have hd := delete_any h unfair 34 #[] (fun args w => by go_simp) (by rw [List.length_take]; omega) (fun r hr w' _ => by
    have hm := hs r (List.mem_of_mem_take hr)
    have := unfair_any (bs r.1) (bs r.2) hm.1 hm.2 w'
    simpa only [bs_list, Array.append_empty] using this)
  rw [fair_is] at hd
  refine hd.mono fun e w' ⟨v', he, hv, hg⟩ => ⟨v', he, hv.mono hB, hbe.grown hg hbe.size (fun q hq => ?_)⟩
  have := (World.ownsRow.lt h q hq).1
  omega

set_option maxRecDepth 100000 in
set_option maxHeartbeats 2000000 in
theorem fair_any (v : Value) (l : List Px.Rec) (w : World) (h : PairsIn w v l) :
    Calls Tryd.prog 13 #[v] w fun e w' => ∃ v', e = .returned v' ∧ HasR w' w.heap.size v' (fairL l) ∧ Below w.heap.size w w' := by
  obtain ⟨X, cap, rfl, hlc, hl, hs, hX⟩ := h
  have HS := Lib.hid hs
  have hlI : (l.length : Int) ≤ 4398046510976 := by omega
  have hlcI : (l.length : Int) ≤ cap := by omega
  by_cases h0 : l.length = 0
  · obtain rfl := List.length_eq_zero_iff.1 h0
    cases X with
    | none =>
      clear hX hs h0
      go_enter Tryd.func13, Tryd.ntmps13
      go_wp2_with fail
      refine (clone_none _ _ _).mono ?_
      rintro e w1 ⟨rfl, hw⟩
      subst hw
      go_wp2_with fail
      refine (fair_end (l := []) (Nat.le_refl _) (Below.refl _ _) HS.out (World.ownsRow_nil _ _ _ _)).mono ?_
      rintro e w2 ⟨v', rfl, hv, h2⟩
      have V2 := Lib.hid hv
      have B2 := Lib.hid h2
      clear hv h2
      go_wp2_with fail
      go_ret
      exact ⟨_, rfl, V2.out, B2.out⟩
    | some a =>
      clear hX hs h0
      go_enter Tryd.func13, Tryd.ntmps13
      go_wp2_with fail
      refine (clone_empty _ _ _).mono ?_
      rintro e w1 ⟨v1, rfl, hv1, h1⟩
      have V1 := Lib.hid hv1
      have B1 := Lib.hid h1
      clear hv1 h1
      go_wp2_with fail
      refine (fair_end (l := []) (Nat.le_refl _) B1.out HS.out V1.out).mono ?_
      rintro e w2 ⟨v', rfl, hv, h2⟩
      have V2 := Lib.hid hv
      have B2 := Lib.hid h2
      clear hv h2
      go_wp2_with fail
      go_ret
      exact ⟨_, rfl, V2.out, B2.out⟩
  · obtain ⟨b, off, rfl, hb, hrow⟩ := hX.resolve_left (fun h => h0 (by rw [h]; rfl))
    have HR := Lib.hid hrow
    clear hrow hs hX
    go_enter Tryd.func13, Tryd.ntmps13
    go_wp2_with fail
    have hcl := clone_rows (l.take 10) b off cap w (fun j hj => by rw [List.length_take] at hj; rw [List.getElem_take]; exact HR.out j (by omega)) (by rw [List.length_take]; omega)
    have ht : (l.take 10).length = (min (l.length : Int) 10).toNat := by rw [List.length_take]; omega
    rw [ht] at hcl
    refine hcl.mono ?_
    rintro e w1 ⟨v1, rfl, hv1, h1⟩
    have V1 := Lib.hid hv1
    have B1 := Lib.hid h1
    clear hv1 h1 hcl ht
    go_wp2_with fail
    refine (fair_end (l := l) (Nat.le_refl _) B1.out HS.out V1.out).mono ?_
    rintro e w2 ⟨v', rfl, hv, h2⟩
    have V2 := Lib.hid hv
    have B2 := Lib.hid h2
    clear hv h2
    go_wp2_with fail
    go_ret
    exact ⟨_, rfl, V2.out, B2.out⟩

end Go.Proofs.YtjafjhhmjfpmoaaDoor
