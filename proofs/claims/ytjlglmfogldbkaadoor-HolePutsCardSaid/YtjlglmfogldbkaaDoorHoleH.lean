/-
  slices.ContainsFunc at the pieces that hold a place.
-/
import Derived.Test.YtjlglmfogldbkaaDoorHoleG
namespace Hol
def hitGo (x : Nat) : Nat → List Pc → Int
  | _, [] => -1
  | k, (a, s) :: r => if a ≤ x ∧ x < a + s then (k : Int) else hitGo x (k + 1) r
theorem hit_iff (x : Nat) : ∀ (qs : List Pc) (k : Nat), 0 ≤ hitGo x k qs ↔ ∃ p ∈ qs, InP x p := by
  intro qs
  induction qs with
  | nil => intro k; simp [hitGo]
  | cons p r ih =>
    obtain ⟨a, s⟩ := p
    intro k
    simp only [hitGo, List.mem_cons, exists_eq_or_imp]
    by_cases h : a ≤ x ∧ x < a + s
    · rw [if_pos h]; exact ⟨fun _ => .inl h, fun _ => by omega⟩
    · rw [if_neg h, ih]; exact ⟨fun h2 => .inr h2, fun h2 => h2.resolve_left h⟩
theorem hit_bd (x : Nat) : ∀ (qs : List Pc) (k : Nat), -1 ≤ hitGo x k qs ∧ hitGo x k qs ≤ (k : Int) + qs.length := by
  intro qs
  induction qs with
  | nil => intro k; simp only [hitGo, List.length_nil]; omega
  | cons p r ih =>
    obtain ⟨a, s⟩ := p
    intro k
    have := ih (k + 1)
    simp only [hitGo, List.length_cons]
    split <;> omega
end Hol
namespace Go.Proofs.YtjlglmfogldbkaaDoor
open Go.RowKit

theorem closure_any (a s x g : Nat) (w : World) (hg : w.cell? ⟨g, 0, none⟩ = some (.int .i64 (x : Int))) (h : a + s ≤ 1000000) :
    Calls Tryd.prog 13 #[.agg #[.int .i64 (a : Int), .int .i64 (s : Int)], .pointer (some ⟨g, 0, none⟩)] w fun e w' => e = .returned (.bool (decide (a ≤ x ∧ x < a + s))) ∧ Below w.heap.size w w' := by
  have hlt : g < w.heap.size := World.block_lt_of_cell? w ⟨g, 0, none⟩ hg
  have hB : Hid (Below w.heap.size w (w.alloc (.cells #[.int .i64 (a : Int), .int .i64 (s : Int)] 36))) := (Below.refl _ _).alloc (Nat.le_refl _) _
  by_cases h1 : a ≤ x
  · have k1 : (a : Int) ≤ x := by omega
    by_cases h2 : x < a + s
    · have k2 : (x : Int) < (a : Int) + s := by omega
      rw [decide_eq_true ⟨h1, h2⟩]
      clear h1 h2
      go_enter Tryd.func13, Tryd.ntmps13
      go_wp2_with fail
      go_ret
      exact ⟨rfl, hB.out⟩
    · have k2 : ¬ (x : Int) < (a : Int) + s := by omega
      rw [decide_eq_false (fun h => h2 h.2)]
      clear h1 h2
      go_enter Tryd.func13, Tryd.ntmps13
      go_wp2_with fail
      go_ret
      exact ⟨by simp <;> omega, hB.out⟩
  · have k1 : ¬ (a : Int) ≤ x := by omega
    rw [decide_eq_false (fun h => h1 h.1)]
    clear h1
    go_enter Tryd.func13, Tryd.ntmps13
    go_wp2_with fail
    go_ret
    exact ⟨rfl, hB.out⟩

set_option maxRecDepth 100000 in
theorem index_row (b off cap x g : Nat) (qs : List Hol.Pc) (w : World) (hb : b < w.heap.size) (hc : RowQ w b off qs) (hg : w.cell? ⟨g, 0, none⟩ = some (.int .i64 (x : Int))) (hl : qs.length ≤ 1000) (hA : ∀ p ∈ qs, p.1 + p.2 ≤ 1000000) :
    Calls Tryd.prog 18 #[.slice (some ⟨b, off, none⟩) qs.length cap, .func (.func 13) #[] #[.pointer (some ⟨g, 0, none⟩)]] w fun e w' => e = .returned (.int .i64 (Hol.hitGo x 0 qs)) ∧ Below w.heap.size w w' := by
  have hlt : g < w.heap.size := World.block_lt_of_cell? w ⟨g, 0, none⟩ hg
  obtain ⟨R, hR⟩ : ∃ R, R = Hol.hitGo x 0 qs := ⟨_, rfl⟩
  rw [← hR]
  have HR := Lib.hid hR
  have HC := Lib.hid hc
  have HG := Lib.hid hg
  have HA := Lib.hid hA
  clear hR hc hg hA
  go_enter Tryd.func18, Tryd.ntmps18
  go_wp2_with fail
  go_loopg [8] (qs.length) (fun gg iv wr => ∃ i : Nat, iv = .int .i64 i ∧ i ≤ qs.length ∧ gg + i = qs.length ∧ Below w.heap.size w wr ∧ R = Hol.hitGo x i (qs.drop i))
  case atStart => exact ⟨0, rfl, by omega, by omega, Below.refl _ _, by rw [List.drop_zero]; exact HR.out⟩
  case round =>
    obtain ⟨i, rfl, hi1, hgg, hbw, hR⟩ := hrel
    have Hg := Lib.hid hgg
    have HW := Lib.hid hbw
    have HR2 := Lib.hid hR
    clear hgg hbw hR
    by_cases hi : i < qs.length
    · have hi3 : (i : Int) < qs.length := by omega
      have c1 := (HW.out.cell (p := ⟨b, off + i * 2, none⟩) hb).trans (HC.out i hi).1
      have c2 := (HW.out.cell (p := ⟨b, off + i * 2 + 1, none⟩) hb).trans (HC.out i hi).2
      have cg := (HW.out.cell (p := ⟨g, 0, none⟩) hlt).trans HG.out
      have hm := HA.out qs[i] (List.getElem_mem hi)
      have hdr : qs.drop i = (qs[i].1, qs[i].2) :: qs.drop (i + 1) := List.drop_eq_getElem_cons hi
      obtain ⟨a, ha⟩ : ∃ a, a = qs[i].1 := ⟨_, rfl⟩
      obtain ⟨t, ht⟩ : ∃ t, t = qs[i].2 := ⟨_, rfl⟩
      rw [← ha] at c1
      rw [← ht] at c2
      rw [← ha, ← ht] at hm hdr
      have hR3 : R = if a ≤ x ∧ x < a + t then (i : Int) else Hol.hitGo x (i + 1) (qs.drop (i + 1)) := by rw [HR2.out, hdr]; rfl
      have hcl := closure_any a t x g wr cg hm
      obtain ⟨bb, hbb⟩ : ∃ bb, bb = decide (a ≤ x ∧ x < a + t) := ⟨_, rfl⟩
      rw [← hbb] at hcl
      have CL := Lib.hid hcl
      cases bb
      · have hR4 : R = Hol.hitGo x (i + 1) (qs.drop (i + 1)) := by rw [hR3, if_neg (of_decide_eq_false hbb.symm)]
        have HR4 := Lib.hid hR4
        clear ha ht hdr hR3 hcl hbb hR4
        go_wp2_with fail
        refine CL.out.mono ?_
        rintro e w2 ⟨rfl, h2⟩
        have D2 := Lib.hid (HW.out.trans (h2.mono HW.out.size))
        clear h2
        go_wp2_with fail
        go_roundg (qs.length - (i + 1))
        case measure => have := Hg.out; omega
        case rel => exact ⟨i + 1, by go_num, by omega, by omega, D2.out, HR4.out⟩
      · have hR4 : R = (i : Int) := by rw [hR3, if_pos (of_decide_eq_true hbb.symm)]
        have HR4 := Lib.hid hR4
        clear ha ht hdr hR3 hcl hbb hR4
        go_wp2_with fail
        refine CL.out.mono ?_
        rintro e w2 ⟨rfl, h2⟩
        have D2 := Lib.hid (HW.out.trans (h2.mono HW.out.size))
        clear h2
        go_wp2_with fail
        go_ret
        rw [HR4.out]
        exact ⟨rfl, D2.out⟩
    · have hi3 : (qs.length : Int) ≤ i := by omega
      have hR3 : R = -1 := by rw [HR2.out, List.drop_of_length_le (by omega)]; rfl
      have HR4 := Lib.hid hR3
      clear hR3
      go_wp2_with fail
      go_ret
      rw [HR4.out]
      exact ⟨rfl, HW.out⟩

theorem contains_any (v : Value) (x g : Nat) (qs : List Hol.Pc) (w : World) (hP : Pcs w v (qs.map Hol.castP)) (hg : w.cell? ⟨g, 0, none⟩ = some (.int .i64 (x : Int))) (hl : qs.length ≤ 1000) (hA : ∀ p ∈ qs, p.1 + p.2 ≤ 1000000) :
    Calls Tryd.prog 12 #[v, .func (.func 13) #[] #[.pointer (some ⟨g, 0, none⟩)]] w fun e w' => e = .returned (.bool (decide (0 ≤ Hol.hitGo x 0 qs))) ∧ Below w.heap.size w w' := by
  rcases rowq_ways hP with ⟨A, cap, rfl, rfl⟩ | ⟨b, off, cap, rfl, hb, h0, hc⟩
  · clear hP hA hl
    go_enter Tryd.func12, Tryd.ntmps12
    go_wp2_with go_in
    refine wp_loop_rounds 1 ?_
    rw [rounds_succ]
    go_wp2_with fail
    go_ret
    exact ⟨rfl, Below.refl _ _⟩
  · have hi := index_row b off cap x g qs w hb hc hg hl hA
    have HI := Lib.hid hi
    obtain ⟨R, hR⟩ : ∃ R, R = Hol.hitGo x 0 qs := ⟨_, rfl⟩
    rw [← hR] at HI ⊢
    clear hi hc hP hA hR
    go_enter Tryd.func12, Tryd.ntmps12
    go_wp2_with fail
    refine HI.out.mono ?_
    rintro e w2 ⟨rfl, h2⟩
    have D2 := Lib.hid h2
    clear h2
    go_wp2_with fail
    go_ret
    exact ⟨rfl, D2.out⟩

end Go.Proofs.YtjlglmfogldbkaaDoor
