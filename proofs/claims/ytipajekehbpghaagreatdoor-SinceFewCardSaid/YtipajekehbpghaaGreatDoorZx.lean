/-
  The fact on changes: changed.
-/
import Derived.Test.YtipajekehbpghaaGreatDoorZv
import Derived.Test.YtipajekehbpghaaGreatDoorZm
set_option linter.unusedVariables false
set_option linter.unusedSimpArgs false

namespace Pk
open Pth Tre
def fifo : Nd := ⟨54, 0, 0, 0, 0, 0, [], [], 0, 0⟩
def da : Deed := ⟨1, [97], [], 0, fifo⟩
def db : Deed := ⟨1, [98], [], 0, fifo⟩
def ta : T := (act none_ da).1
def tb : T := (act none_ db).1
set_option maxRecDepth 100000 in
theorem ra : (act none_ da).2 = 0 := by decide
set_option maxRecDepth 100000 in
theorem rb : (act none_ db).2 = 0 := by decide
theorem sa : Std ta := Std.none_.act _
theorem sb : Std tb := Std.none_.act _
set_option maxRecDepth 100000 in
theorem ea : ta.ents = [([97], 1)] := by decide
set_option maxRecDepth 100000 in
theorem eb : tb.ents = [([98], 1)] := by decide
set_option maxRecDepth 100000 in
theorem nxb : tb.nx = 1 := by decide
set_option maxRecDepth 100000 in
theorem fb1 : tb.file 1 = fifo := by decide
set_option maxRecDepth 100000 in
theorem na : ta.names = [[97]] := by
  refine (eq_names sa ?_ ?_).symm
  · rw [ea]; exact List.Perm.refl _
  · decide
set_option maxRecDepth 100000 in
theorem nb : tb.names = [[98]] := by
  refine (eq_names sb ?_ ?_).symm
  · rw [eb]; exact List.Perm.refl _
  · decide
set_option maxRecDepth 100000 in
theorem lb : list tb false = [whole [98] fifo] := by
  have l0 : look tb.ents [98] = some 1 := by rw [eb]; decide
  have f0 : first tb [] [98] = [] := rfl
  unfold list
  rw [nb]
  simp only [listGo]
  unfold memb
  rw [f0, nodeAt_of l0, fb1]
  rfl
set_option maxRecDepth 100000 in
theorem lab : look ta.ents [98] = none := by rw [ea]; decide
set_option maxRecDepth 100000 in
theorem kab : tb.links [97] = 0 := by
  unfold T.links T.alike
  rw [eb]
  decide
end Pk
namespace Go.Proofs.YtipajekehbpghaaGreatDoor
open Go.RowKit Go.Maps Tre Pk

theorem hasS_later {w w' : World} {B : Nat} {v : Value} {l : List (List UInt8)} (h : HasS w B v l) (hb : Below w.heap.size w w') : HasS w' B v l := by
  obtain ⟨A, cap, e, hc, h⟩ := h
  exact ⟨A, cap, e, hc, h.imp id fun ⟨b, off, e1, e2, e3, e4⟩ => ⟨b, off, e1, e2, Nat.lt_of_lt_of_le e3 hb.size, e4.below hb e3⟩⟩

set_option maxRecDepth 100000 in
set_option maxHeartbeats 8000000 in
theorem changedF_any (w : World) (hm : ML w) : Calls Tryz.prog 34 #[] w fun e w' => e = .returned (.bool true) ∧ Below w.heap.size w w' := by
  have HM := Lib.hid hm
  obtain ⟨W, hW⟩ : ∃ W, W = (w.alloc (.cells #[.map none, .map none, .int .i64 0] 71)).alloc (.cells #[.map none, .map none, .int .i64 0] 71) := ⟨_, rfl⟩
  have HB0 := Lib.hid (show Below w.heap.size w W by rw [hW]; exact ((Below.refl _ _).alloc (Nat.le_refl _) _).alloc (by simp) _)
  have hWs : W.heap.size = w.heap.size + 2 := by rw [hW]; simp
  have T0 := Lib.hid (show TreeAt W w.heap.size none none none_ by rw [hW]; exact (empty_tree w).below ((Below.refl _ _).alloc (Nat.le_refl _) _))
  have U0 := Lib.hid (show TreeAt W (w.heap.size + 1) none none none_ by
    have := empty_tree (w.alloc (.cells #[.map none, .map none, .int .i64 0] 71))
    rw [show (w.alloc (.cells #[.map none, .map none, .int .i64 0] 71)).heap.size = w.heap.size + 1 by simp] at this
    rw [hW]; exact this)
  have HW := Lib.hid hW
  have e0 : errV 0 = .nilIface := rfl
  have DA := Lib.hid (do_tree T0.out Std.none_ (by show 0 ≤ 100000; omega) (HM.out.below HB0.out) da (by decide) (by decide) (by decide) (by decide) (by decide))
  rw [ra, e0, show (act none_ da).1 = ta from rfl] at DA
  unfold dv dvc at DA
  simp only [da, fifo] at DA
  clear hm hW
  go_enter Tryz.func34, Tryz.ntmps34
  go_wp2_with fail
  rw [← HW.out]
  clear HW
  refine DA.out.mono ?_
  rintro e w1 ⟨rfl, n1, f1, k1, k2, k3⟩
  have T1 : Hid (TreeAt w1 w.heap.size n1 f1 ta) := Lib.hid k1
  have O1 := Lib.hid (show ∀ b ∈ own w.heap.size n1 f1, b = w.heap.size ∨ W.heap.size ≤ b from fun b hb => (k2 b hb).imp (fun h => by simpa [own] using h) id)
  have B1 := Lib.hid (HB0.out.trans (k3.down (B := w.heap.size) (fun b hb => by simp [own] at hb; omega) (by omega)))
  have U1 := Lib.hid (U0.out.kept k3.size (fun b hb => k3.block b (U0.out.lt b hb) (fun hn => by simp [own] at hb hn; omega)))
  clear k1 k2 k3 DA
  have DB := Lib.hid (do_tree U1.out Std.none_ (by show 0 ≤ 100000; omega) (HM.out.below B1.out) db (by decide) (by decide) (by decide) (by decide) (by decide))
  rw [rb, e0, show (act none_ db).1 = tb from rfl] at DB
  unfold dv dvc at DB
  simp only [db, fifo] at DB
  go_wp2_with fail
  refine DB.out.mono ?_
  rintro e w2 ⟨rfl, n2, f2, k1, k2, k3⟩
  have U2 : Hid (TreeAt w2 (w.heap.size + 1) n2 f2 tb) := Lib.hid k1
  have B2 := Lib.hid (B1.out.trans (k3.down (B := w.heap.size) (fun b hb => by simp [own] at hb; omega) B1.out.size))
  have T2 := Lib.hid (T1.out.kept k3.size (fun b hb => k3.block b (T1.out.lt b hb) (fun hn => by have := O1.out b hb; simp [own] at hn; omega)))
  clear k1 k2 k3 DB
  have CH := Lib.hid (changedN_any (HM.out.below B2.out) T2.out U2.out sa sb (by rw [nxb]; omega) false (fun e he => by rw [lb] at he; rw [List.mem_singleton.1 he]; exact lab) (fun e he => by rw [lb] at he; rw [List.mem_singleton.1 he]; decide))
  rw [lb] at CH
  have GO := Lib.hid (fun w' (hb : Below w2.heap.size w2 w') => goneN_any ((HM.out.below B2.out).below hb) (T2.out.below hb) (U2.out.below hb) sa sb (fun s hs => by rw [na] at hs; rw [List.mem_singleton.1 hs]; exact kab))
  rw [na] at GO
  go_wp2_with fail
  refine CH.out.mono ?_
  rintro e w3 ⟨v3, ps, rfl, hps, hen, h3⟩
  have B3 := Lib.hid h3
  have E3 := Lib.hid hen.at_
  clear CH h3 hen
  match ps, hps with
  | [(pe, pm)], hps =>
    obtain rfl : pe = whole [98] fifo := by simpa using hps
    clear hps
    obtain ⟨XA, xc, rfl, hxc, hrow⟩ := E3.out.row
    rcases hrow with h0 | ⟨b, off, rfl, hb, hrw⟩
    · cases h0
    have cN := Lib.hid (show w3.cell? ⟨b, off + 0 * 15 + 0, none⟩ = some (.string ⟨#[98]⟩) from hrw 0 (by simp) 0 (by decide))
    have hb3 : b < w3.heap.size := hb
    clear hrw hb
    go_wp2_with fail
    refine (GO.out _ B3.out).mono ?_
    rintro e w4 ⟨v4, rfl, hv4, h4⟩
    have B4 := Lib.hid (thenB B3.out h4)
    obtain ⟨w5, hw5⟩ : ∃ x, x = w4.alloc (.cells #[.string ⟨#[97]⟩] 9) := ⟨_, rfl⟩
    have h45 : Below w4.heap.size w4 w5 := by rw [hw5]; exact (Below.refl _ _).alloc (Nat.le_refl _) _
    have K5 : HasS w5 0 (.slice (some ⟨w4.heap.size, 0, none⟩) 1 1) [[97]] := ⟨_, 1, rfl, Nat.le_refl _, .inr ⟨w4.heap.size, 0, rfl, Nat.zero_le _, by rw [hw5]; simp, fun j hj => by
      obtain rfl : j = 0 := by simp at hj; omega
      rw [hw5]; exact (Blk.new w4 9 _).cell 0⟩⟩
    have EQ := Lib.hid (eq_any (hasS_later hv4 h45) K5 (by decide) (by decide))
    have B35 := Lib.hid (thenB h4 h45)
    have HW5 := Lib.hid hw5
    obtain ⟨X4, c4, rfl, _⟩ := id hv4
    clear hv4 h4 h45 K5 hw5 GO
    go_wp2_with fail
    rw [← HW5.out]
    refine EQ.out.mono ?_
    rintro e w6 ⟨rfl, h6⟩
    have B36 := Lib.hid (thenB B35.out h6)
    have cb : w6.cell? ⟨b, off, none⟩ = some (.string ⟨#[98]⟩) := by
      have := (B36.out.cell (p := ⟨b, off + 0 * 15 + 0, none⟩) hb3).trans cN.out
      simpa using this
    have hl1 : (1 : Int) ≤ xc := by have : (1 : Nat) ≤ xc := hxc; omega
    have hd : decide ([[97]].reverse = ([[97]] : List Pth.Bs)) = true := rfl
    rw [hd]
    clear h6 hd
    go_wp2_with fail
    go_ret
    exact ⟨rfl, thenB (thenB B2.out B3.out) B36.out⟩

end Go.Proofs.YtipajekehbpghaaGreatDoor
