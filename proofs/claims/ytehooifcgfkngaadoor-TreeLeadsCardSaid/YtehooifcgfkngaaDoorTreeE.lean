/-
  (*Tree).inside, room, space.
-/
import Derived.Test.YtehooifcgfkngaaDoorTreeD
namespace Go.Proofs.YtehooifcgfkngaaDoor
open Go.RowKit Go.Maps Tre Go.Sort Go.Shelf

theorem insideC_any (x s : ByteArray) (p : Nat) (w : World) (hs : s.size ≤ 1000000) (hc : w.cell? ⟨p, 0, none⟩ = some (.string s)) :
    Calls Tryd.prog 79 #[.string x, .pointer (some ⟨p, 0, none⟩)] w fun e w' => e = .returned (.bool (!Pth.inn x.data.toList s.data.toList)) ∧ w' = w := by
  have H := Lib.hid (fun w => in_same x s w hs)
  go_enter Tryd.func79, Tryd.ntmps79
  go_wp2_with fail
  refine (H.out _).mono ?_
  rintro e w1 ⟨rfl, hw⟩
  subst w1
  go_wp2_with fail
  go_ret
  exact ⟨rfl, rfl⟩

theorem filter_map_bs (l : List Pth.Bs) (q : Pth.Bs → Bool) : ((l.map bs).filter fun x => q x.data.toList) = (l.filter q).map bs := by
  rw [List.filter_map]; rfl
/-- slices.DeleteFunc at names of the call's own, by a closure that asks path.In. -/
theorem delete_in {w : World} {B : Nat} {v : Value} {l : List Pth.Bs} (h : HasT w B v l) (h0 : l ≠ []) (hl : l.length ≤ 100000) (s : ByteArray) (p : Nat) (hs : s.size ≤ 1000000) (hc : w.cell? ⟨p, 0, none⟩ = some (.string s)) (hp : p < B) :
    Calls Tryd.prog 60 #[v, .func (.func 79) #[] #[.pointer (some ⟨p, 0, none⟩)]] w fun e w' => ∃ g cap, e = .returned (.slice (some ⟨g, 0, none⟩) (l.filter fun x => Pth.inn x s.data.toList).length cap) ∧ (l.filter fun x => Pth.inn x s.data.toList).length ≤ cap ∧ B ≤ g ∧ g < w'.heap.size ∧ RowS w' g 0 (l.filter fun x => Pth.inn x s.data.toList) ∧ Below B w w' := by
  rcases h.ways with ⟨_, h1⟩ | ⟨g, cap, cur, rfl, hBg, hg, hcap, hblk, hcs, hcm, hrow⟩
  · exact absurd h1 h0
  · have hH : Holds Value.string w g 0 (l.map bs).toArray := by
      intro j hj
      have hj' : j < l.length := by simpa using hj
      refine ⟨?_, hblk.frozen _⟩
      rw [hrow j hj', getElem!_pos (l.map bs).toArray j hj]
      simp
    have hh := Tryd.slices_DeleteFunc Value.string (fun _ => rfl) (fun x => !Pth.inn x.data.toList s.data.toList) 79 #[.pointer (some ⟨p, 0, none⟩)] (enters_of Tryd.func79 (by kernel_rfl) rfl) ByteArray.empty Tryd.zeroValue9
      g 0 cap (l.map bs).toArray w (fun W x hb => (insideC_any x s p W hs ((hb.cell (p := ⟨p, 0, none⟩) (World.block_lt_of_cell? w ⟨p, 0, none⟩ hc)).trans hc)).mono fun e w' ⟨he, hw⟩ => ⟨he, 0, hw⟩)
      (fun n os dk x _ => (insideC_any x s p _ hs ((World.cell?_of_block (a := ⟨p, 0, none⟩) ((grownBy_sorted1 (enc := Value.string) (n := n) (os := os) (g := g) dk).block p (World.block_lt_of_cell? w ⟨p, 0, none⟩ hc) (by intro e; injection e with e; omega))).trans hc)).mono fun e w' ⟨he, hw⟩ => ⟨he, 0, hw⟩) hH (by simp; omega) (by simpa using hcap)
    have hsx : (l.map bs).toArray.size = l.length := by simp
    have hxs : (l.map bs).toArray.toList = l.map bs := by simp
    have hnot : (fun x : ByteArray => !!Pth.inn x.data.toList s.data.toList) = fun x => Pth.inn x.data.toList s.data.toList := by funext x; simp
    rw [hsx, hnot, hxs, filter_map_bs l (fun x => Pth.inn x s.data.toList)] at hh
    obtain ⟨ys, hys⟩ : ∃ ys, ys = l.filter fun x => Pth.inn x s.data.toList := ⟨_, rfl⟩
    have hyl : ys.length ≤ l.length := by rw [hys]; exact List.length_filter_le _ _
    rw [← hys] at hh ⊢
    refine hh.mono fun e w' ⟨he, q, hw⟩ => ?_
    rw [List.length_map] at he hw
    subst he
    obtain ⟨D, hD⟩ : ∃ D, D = (ys.map bs ++ List.replicate (l.length - ys.length) ByteArray.empty).toArray := ⟨_, rfl⟩
    rw [← hD] at hw
    have hDs : D.size = (l.map bs).toArray.size := by rw [hD]; simp; omega
    have hDk : ∀ j (hj : j < ys.length), D[j]! = bs ys[j] := fun j hj => by
      rw [getElem!_pos D j (by rw [hDs]; simp; omega)]
      simp only [hD, List.getElem_toArray]
      rw [List.getElem_append_left (by simpa using hj), List.getElem_map]
    refine ⟨g, cap, rfl, by omega, hBg, ?_, fun j hj => ?_, ?_⟩
    · rw [hw, size_putRow]; exact hg
    · rw [hw, cell?_putRow Value.string (Sort.ahead w q) g 0 (l.map bs).toArray D hH hDs j (by rw [hDs]; simp; omega), hDk j hj]
    · have := grownBy_sorted1 (enc := Value.string) (w := w) (n := q) (os := #[]) (g := g) D
      rw [grow_empty, ← hw] at this
      exact ⟨this.os, this.tape, this.output, this.size, fun i hi => this.block i (by omega) (by intro e; injection e with e; omega)⟩

set_option maxRecDepth 100000 in
/-- The names inside a name. -/
theorem inside_any {w : World} {g : Nat} {on of : Option Nat} {t : T} (h : TreeAt w g on of t) (ht : Std t) (hm : ML w) (s : ByteArray) (hs : s.size ≤ 1000000) (hh : t.has s.data.toList = true) :
    Calls Tryd.prog 52 #[.pointer (some ⟨g, 0, none⟩), .string s] w fun e w' => ∃ v, e = .returned v ∧ HasS w' w.heap.size v (t.inside s.data.toList) ∧ Below w.heap.size w w' := by
  have hb0 : Below w.heap.size w (w.alloc (.cells #[.string s] 9)) := (Below.refl _ _).alloc (Nat.le_refl _) _
  have NM := Lib.hid (names_any (h.alloc (.cells #[.string s] 9)) ht (hm.below hb0))
  have h0 : t.names ≠ [] := fun e => by
    have := names_mem.2 hh
    rw [e] at this; cases this
  have hl : t.names.length ≤ 60 := by rw [names_len]; exact ht.cn
  have e : t.inside s.data.toList = t.names.filter fun x => Pth.inn x s.data.toList := rfl
  rw [e]
  obtain ⟨L, hL⟩ : ∃ L, L = t.names := ⟨_, rfl⟩
  rw [← hL] at NM h0 hl ⊢
  clear e hL hh h ht hm hb0
  go_enter Tryd.func52, Tryd.ntmps52
  go_wp2_with fail
  refine NM.out.mono ?_
  rintro e w1 ⟨v, rfl, hv, h1⟩
  have c0 : w1.cell? ⟨w.heap.size, 0, none⟩ = some (.string s) := (h1.cell (p := ⟨w.heap.size, 0, none⟩) (by simp)).trans ((Blk.new w 9 #[.string s]).cell 0)
  have DL := Lib.hid (delete_in hv h0 (by omega) s w.heap.size hs c0 (by simp))
  have B1 := Lib.hid (thenB ((Below.refl _ _).alloc (Nat.le_refl _) _) h1)
  have Z1 := Lib.hid h1.size
  clear hv h1 c0 h0
  go_wp2_with fail
  refine DL.out.mono ?_
  rintro e w2 ⟨g2, cap, rfl, k1, k2, k3, k4, k5⟩
  have K1 := Lib.hid k1
  have K2 := Lib.hid k2
  have K3 := Lib.hid k3
  have K4 := Lib.hid k4
  have K5 := Lib.hid (B1.out.trans (k5.mono (by simp)))
  clear k1 k2 k3 k4 k5
  go_wp2_with fail
  go_ret
  exact ⟨_, rfl, HasS.row (by have := K2.out; simp at this; omega) K3.out K1.out K4.out, K5.out⟩

end Go.Proofs.YtehooifcgfkngaaDoor
