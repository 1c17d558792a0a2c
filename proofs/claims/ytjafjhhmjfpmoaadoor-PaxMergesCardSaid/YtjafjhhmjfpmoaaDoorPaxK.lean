/-
  slices.IndexFunc, slices.DeleteFunc of records.
-/
import Derived.Test.YtjafjhhmjfpmoaaDoorPaxJ
import Derived.Deep.LoopGhost
import Derived.Laws.CopyRow
import Derived.Laws.Cells
namespace Go.Proofs.YtjafjhhmjfpmoaaDoor
open Go.RowKit

/-- The first one of which p holds. -/
def idxP (p : Px.Rec → Bool) (l : List Px.Rec) : Int := match l.findIdx? p with | none => -1 | some i => i
theorem idxP_hit {p : Px.Rec → Bool} {l : List Px.Rec} {i : Nat} (hi : i < l.length) (h : p l[i] = true) (ha : ∀ (j : Nat) (hj : j < l.length), j < i → p l[j] = false) : idxP p l = i := by
  unfold idxP
  rw [List.findIdx?_eq_some_iff_getElem.2 ⟨hi, h, fun j hj => by have := ha j (by omega) hj; simp [this]⟩]
theorem idxP_miss {p : Px.Rec → Bool} {l : List Px.Rec} (ha : ∀ (j : Nat) (hj : j < l.length), p l[j] = false) : idxP p l = -1 := by
  unfold idxP
  rw [List.findIdx?_eq_none_iff.2 fun x hx => by
    obtain ⟨j, hj, rfl⟩ := List.getElem_of_mem hx
    exact ha j hj]
theorem idxP_ways (p : Px.Rec → Bool) (l : List Px.Rec) : (idxP p l = -1 ∧ ∀ x ∈ l, p x = false) ∨ ∃ i, ∃ hi : i < l.length, idxP p l = (i : Nat) ∧ p l[i] = true ∧ ∀ x ∈ l.take i, p x = false := by
  unfold idxP
  cases h : l.findIdx? p with
  | none => exact .inl ⟨rfl, fun x hx => by have := List.findIdx?_eq_none_iff.1 h x hx; simpa using this⟩
  | some i =>
    obtain ⟨hi, h1, h2⟩ := List.findIdx?_eq_some_iff_getElem.1 h
    refine .inr ⟨i, hi, rfl, h1, fun x hx => ?_⟩
    obtain ⟨j, hj, rfl⟩ := List.getElem_of_mem hx
    rw [List.length_take] at hj
    have := h2 j (by omega)
    rw [List.getElem_take]
    simpa using this

set_option maxRecDepth 100000 in
set_option maxHeartbeats 2000000 in
theorem index_rows (l : List Px.Rec) (b off c : Nat) (p : Px.Rec → Bool) (g : Nat) (lb : Array Value) (eg : ∀ args w, (callFunc g args).run Tryd.prog w = .ok (.enter g args) w) (w : World) (hb : b < w.heap.size) (hrow : RowR w b off l) (hl : l.length ≤ 1000000)
    (hp : ∀ r ∈ l, ∀ w', Below w.heap.size w w' → Calls Tryd.prog g (#[prv (bs r.1) (bs r.2)] ++ lb) w' fun e w'' => e = .returned (.bool (p r)) ∧ Below w'.heap.size w' w'') :
    Calls Tryd.prog 36 #[.slice (some ⟨b, off, none⟩) l.length c, .func (.func g) #[] lb] w fun e w' => e = .returned (.int .i64 (idxP p l)) ∧ Below w.heap.size w w' := by
  have R := Lib.hid hrow
  have HP := Lib.hid hp
  have hli : (l.length : Int) ≤ 1000000 := by omega
  clear hrow hp
  go_enter Tryd.func36, Tryd.ntmps36
  go_wp2_with fail
  go_loopg [5, 8] (l.length) (fun gg _ iv wr => ∃ i : Nat, iv = .int .i64 i ∧ i ≤ l.length ∧ gg = l.length - i ∧ Below w.heap.size w wr ∧ Hid (∀ (j : Nat) (hj : j < l.length), j < i → p l[j] = false))
  case atStart => exact ⟨0, rfl, by omega, by omega, Below.refl _ _, Lib.hid (fun j hj h0 => absurd h0 (by omega))⟩
  case round =>
    obtain ⟨i, rfl, hi, hg, hbw, HN⟩ := hrel
    have HW := Lib.hid hbw
    have HG := Lib.hid hg
    clear hbw hg
    by_cases hil : i < l.length
    · have hii : (i : Int) < l.length := by omega
      obtain ⟨k0, k1⟩ := R.out i hil
      have hpp := HP.out l[i] (List.getElem_mem hil) wr HW.out
      obtain ⟨r, hrd⟩ : ∃ r, r = l[i] := ⟨_, rfl⟩
      rw [← hrd] at k0 k1 hpp
      have d0 : wr.cell? ⟨b, off + i * 2, none⟩ = some (.string (bs r.1)) := (HW.out.cell (p := ⟨b, off + i * 2, none⟩) hb).trans k0
      have d1 : wr.cell? ⟨b, off + i * 2 + 1, none⟩ = some (.string (bs r.2)) := (HW.out.cell (p := ⟨b, off + i * 2 + 1, none⟩) hb).trans k1
      obtain ⟨q, hq⟩ : ∃ q, q = p r := ⟨_, rfl⟩
      rw [← hq] at hpp
      unfold prv at hpp
      have PP := Lib.hid hpp
      have HQ := Lib.hid (hq.trans (by rw [hrd]) : q = p l[i])
      clear k0 k1 hrd hpp hq
      cases q
      · go_wp2_with (go_at_fn g; refine PP.out.mono ?_; rintro e w1 ⟨rfl, hb1⟩)
        have B1 := Lib.hid (thenB HW.out hb1)
        clear hb1
        go_wp2_with fail
        go_roundg (l.length - (i + 1))
        case measure => have := HG.out; omega
        case rel =>
          refine ⟨i + 1, by go_num, by omega, by omega, B1.out, Lib.hid (fun j hj h0 => ?_)⟩
          by_cases e : j = i
          · subst e; exact HQ.out.symm
          · exact HN.out j hj (by omega)
      · go_wp2_with (go_at_fn g; refine PP.out.mono ?_; rintro e w1 ⟨rfl, hb1⟩)
        have B1 := Lib.hid (thenB HW.out hb1)
        clear hb1
        go_wp2_with fail
        go_ret
        exact ⟨by rw [idxP_hit hil HQ.out.symm HN.out]; rfl, B1.out⟩
    · have hii : (l.length : Int) ≤ i := by omega
      go_wp2_with fail
      go_ret
      exact ⟨by rw [idxP_miss (fun j hj => HN.out j hj (by omega))]; rfl, HW.out⟩

end Go.Proofs.YtjafjhhmjfpmoaaDoor
