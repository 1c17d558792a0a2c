/-
  The fact of hole's laws: holed.
-/
import Derived.Test.YtjlglmfogldbkaaDoorHoleC
import Derived.Test.YtjlglmfogldbkaaDoorHoleD
import Derived.Laws.StructEq
namespace Go.Proofs.YtjlglmfogldbkaaDoor
open Go.RowKit

theorem pieces_eq (x y : Int) (w : World) : (binOp .neq 36 (.agg #[.int .i64 x, .int .i64 y]) (.agg #[.int .i64 x, .int .i64 y])).run Tryd.prog w = .ok (.bool false) w := by
  have h3 := Tryd.underlying3
  rw [run_neq_struct, run_equalIn_agg w 9999 36 _ _ (by kernel_rfl) (by kernel_rfl)]
  simp [go_sem, h3]

set_option maxRecDepth 100000 in
theorem equal_row (b1 o1 cap1 b2 o2 cap2 : Nat) (qs : List Hol.Pc) (w : World) (hb1 : b1 < w.heap.size) (hb2 : b2 < w.heap.size) (hc1 : RowQ w b1 o1 qs) (hc2 : RowQ w b2 o2 qs) (hl : qs.length ≤ 1000) :
    Calls Tryd.prog 17 #[.slice (some ⟨b1, o1, none⟩) qs.length cap1, .slice (some ⟨b2, o2, none⟩) qs.length cap2] w fun e w' => e = .returned (.bool true) ∧ Below w.heap.size w w' := by
  have H1 := Lib.hid hc1
  have H2 := Lib.hid hc2
  have hne := fun x y w => pieces_eq x y w
  clear hc1 hc2
  go_enter Tryd.func17, Tryd.ntmps17
  go_wp2_with fail
  go_loopg [13] (qs.length) (fun g iv wr => ∃ i : Nat, iv = .int .i64 i ∧ i ≤ qs.length ∧ g + i = qs.length ∧ Below w.heap.size w wr)
  case atStart => exact ⟨0, rfl, by omega, by omega, Below.refl _ _⟩
  case round =>
    obtain ⟨i, rfl, hi1, hg, hbw⟩ := hrel
    have Hg := Lib.hid hg
    have HW := Lib.hid hbw
    clear hg hbw
    by_cases hi : i < qs.length
    · have hi3 : (i : Int) < qs.length := by omega
      have c1 := (HW.out.cell (p := ⟨b1, o1 + i * 2, none⟩) hb1).trans (H1.out i hi).1
      have c2 := (HW.out.cell (p := ⟨b1, o1 + i * 2 + 1, none⟩) hb1).trans (H1.out i hi).2
      have d1 := (HW.out.cell (p := ⟨b2, o2 + i * 2, none⟩) hb2).trans (H2.out i hi).1
      have d2 := (HW.out.cell (p := ⟨b2, o2 + i * 2 + 1, none⟩) hb2).trans (H2.out i hi).2
      obtain ⟨a, ha⟩ : ∃ a, a = qs[i].1 := ⟨_, rfl⟩
      obtain ⟨t, ht⟩ : ∃ t, t = qs[i].2 := ⟨_, rfl⟩
      rw [← ha] at c1 d1
      rw [← ht] at c2 d2
      clear ha ht
      go_wp2_with fail
      go_quiet (fail)
      go_wp2_with fail
      go_roundg (qs.length - (i + 1))
      case measure => have := Hg.out; omega
      case rel => exact ⟨i + 1, by go_num, by omega, by omega, below_drewN HW.out _⟩
    · have hi3 : (qs.length : Int) ≤ i := by omega
      go_wp2_with fail
      go_ret
      exact ⟨rfl, HW.out⟩

def two : List Hol.Pc := [(2, 2), (8, 1)]
def twoCells : Array Value := #[.int .i64 2, .int .i64 2, .int .i64 8, .int .i64 1]
theorem two_row (w : World) (t : TypeId) : RowQ (w.alloc (.cells #[.int .i64 2, .int .i64 2, .int .i64 8, .int .i64 1] t)) w.heap.size 0 two := fun j hj => by
  have hb := Blk.new w t #[.int .i64 2, .int .i64 2, .int .i64 8, .int .i64 1]
  have hj' : j < 2 := hj
  rcases j with _ | _ | j
  · exact ⟨hb.cell 0, hb.cell 1⟩
  · exact ⟨hb.cell 2, hb.cell 3⟩
  · omega
theorem RowQ.pcs {w : World} {b off cap : Nat} {qs : List Hol.Pc} (h : RowQ w b off qs) (hb : b < w.heap.size) : Pcs w (.slice (some ⟨b, off, none⟩) qs.length cap) (qs.map Hol.castP) := by
  refine ⟨_, cap, by rw [List.length_map], fun j hj => ⟨b, off, rfl, hb, ?_⟩⟩
  have := h j (by simpa using hj)
  simpa [Hol.castP] using this
theorem RowQ.below {w w' : World} {b off : Nat} {qs : List Hol.Pc} (h : RowQ w b off qs) (hb : b < w.heap.size) (hw : Below w.heap.size w w') : RowQ w' b off qs := fun j hj =>
  ⟨(hw.cell (p := ⟨b, off + j * 2, none⟩) hb).trans (h j hj).1, (hw.cell (p := ⟨b, off + j * 2 + 1, none⟩) hb).trans (h j hj).2⟩

def sample : ByteArray := ⟨#[0, 0, 97, 98, 0, 0, 0, 0, 99]⟩
theorem find_two : Hol.find sample.data.toList 2 = two := by decide
theorem put_two : Hol.put [97, 98, 99] two 9 = sample.data.toList := by decide

set_option maxRecDepth 100000 in
set_option maxHeartbeats 2000000 in
theorem holed_any (w : World) : Calls Tryd.prog 6 #[] w fun e w' => e = .returned (.bool true) ∧ Below w.heap.size w w' := by
  have hF := fun w => find_walk sample 2 2 w (by decide) (by decide) (by decide) (by decide)
  rw [find_two] at hF
  have hF2 : ∀ w, Calls Tryd.prog 8 #[.string ⟨#[0, 0, 97, 98, 0, 0, 0, 0, 99]⟩, .int .i64 2] w fun e w' => ∃ v, e = .returned (.tuple #[v, .nilIface]) ∧ HasP w' w.heap.size v two ∧ Below w.heap.size w w' := fun w => (hF w).mono fun e w' h => by
    unfold FindPost at h
    rw [if_neg (by decide)] at h
    exact h
  have hP : ∀ (w2 : World) (b : Nat) (hb : b < w2.heap.size) (hc : RowQ w2 b 0 two), Calls Tryd.prog 10 #[.string ⟨#[97, 98, 99]⟩, .slice (some ⟨b, 0, none⟩) 2 2, .int .i64 9] w2 fun e w' => e = .returned (.tuple #[.string ⟨#[0, 0, 97, 98, 0, 0, 0, 0, 99]⟩, .nilIface]) ∧ Below w2.heap.size w2 w' := fun w2 b hb hc => by
    have h := put_row ⟨#[97, 98, 99]⟩ b 0 2 two 9 w2 (hc.pcs hb) hb hc ⟨by decide, by decide, by decide, by decide, by decide, by decide, trivial⟩ (by decide) (by decide) (by decide)
    have e : (⟨(Hol.put (⟨#[97, 98, 99]⟩ : ByteArray).data.toList two 9).toArray⟩ : ByteArray) = sample := ba_ext put_two
    rw [e] at h
    exact h
  have HF := Lib.hid hF2
  have HP := Lib.hid hP
  clear hF hF2 hP
  go_enter Tryd.func6, Tryd.ntmps6
  go_wp2_with fail
  refine (HF.out _).mono ?_
  rintro e w1 ⟨v, rfl, hv, h1⟩
  rcases hv.ways with ⟨_, h0⟩ | ⟨g, cap, rfl, hgB, hgs, hcs⟩
  · cases h0
  · have hr1 : RowQ w1 g 0 two := fun j hj => by rw [Nat.zero_add]; exact hcs j hj
    have B1 := Lib.hid h1
    have HR1 := Lib.hid hr1
    clear hv h1 hcs hr1
    go_wp2_with fail
    have hq := HP.out (w1.alloc (.cells #[.int .i64 2, .int .i64 2, .int .i64 8, .int .i64 1] 36)) w1.heap.size (by simp) (two_row w1 _)
    refine hq.mono ?_
    rintro e w2 ⟨rfl, h2⟩
    have B2 := Lib.hid (((Below.refl w1.heap.size w1).alloc (Nat.le_refl _) _).trans (h2.mono (by simp)))
    clear hq h2
    go_wp2_with fail
    have he := equal_row g 0 cap w2.heap.size 0 2 two (w2.alloc (.cells #[.int .i64 2, .int .i64 2, .int .i64 8, .int .i64 1] 36)) (by have := B2.out.size; simp; omega) (by simp) ((HR1.out.below hgs (B2.out.alloc B2.out.size _))) (two_row w2 _) (by decide)
    refine he.mono ?_
    rintro e w3 ⟨rfl, h3⟩
    have B3 := Lib.hid (((Below.refl w2.heap.size w2).alloc (Nat.le_refl _) _).trans (h3.mono (by simp)))
    clear he h3
    go_wp2_with fail
    go_ret
    exact ⟨rfl, thenB (thenB B1.out B2.out) B3.out⟩

end Go.Proofs.YtjlglmfogldbkaaDoor
