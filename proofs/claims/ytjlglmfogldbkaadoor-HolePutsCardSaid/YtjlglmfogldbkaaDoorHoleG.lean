/-
  hole.Put at any pieces that may be.
-/
import Derived.Test.YtjlglmfogldbkaaDoorHoleF
namespace Go.Proofs.YtjlglmfogldbkaaDoor
open Go.RowKit

theorem pcs_nil (W : World) (A : Option Addr) (cap : Nat) : Pcs W (.slice A 0 cap) (([] : List Hol.Pc).map Hol.castP) := ⟨A, cap, rfl, fun j hj => absurd hj (Nat.not_lt_zero j)⟩

set_option maxRecDepth 100000 in
theorem put_nil (d : ByteArray) (A : Option Addr) (cap n : Nat) (w : World) (hn : n ≤ 4000) (hd : d.size = 0) :
    Calls Tryd.prog 10 #[.string d, .slice A 0 cap, .int .i64 n] w fun e w' => e = .returned (.tuple #[.string ⟨(List.replicate n 0).toArray⟩, .nilIface]) ∧ Below w.heap.size w w' := by
  have hR := right_nil A cap n w (by omega)
  have hZ : ∀ w : World, Calls Tryd.prog 9 #[.slice A 0 cap] w fun e w' => e = .returned (.int .i64 0) ∧ Below w.heap.size w w' := fun w => size_any _ [] w (pcs_nil w A cap) (by decide) (by decide)
  have hmk := run_make_one (P := Tryd.prog) 46 5 (.int .u8 0) 1 Tryd.underlying46 infoU8 rfl n (n : Int) rfl (by omega) (by omega)
  have k1 : ((d.size : Int) != 0) = false := by rw [hd]; rfl
  have k2 : ¬ (4000 : Int) < n := by omega
  obtain ⟨R, hRR⟩ : ∃ R : ByteArray, R = ⟨(List.replicate n (0 : UInt8)).toArray⟩ := ⟨_, rfl⟩
  rw [← hRR]
  have HRR := Lib.hid hRR
  have HR := Lib.hid hR
  have HZ := Lib.hid hZ
  clear hR hZ hd hRR
  go_enter Tryd.func10, Tryd.ntmps10
  go_wp2_with fail
  refine HR.out.mono ?_
  rintro e w1 ⟨rfl, rfl⟩
  go_wp2_with fail
  refine (HZ.out _).mono ?_
  rintro e w2 ⟨rfl, h2⟩
  have B2 := Lib.hid h2
  clear h2
  go_wp2_with fail
  obtain ⟨w3, hw3⟩ : ∃ w3, w3 = w2.alloc (Obj.cells (rowArr n fun _ => Value.int .u8 0) 5) := ⟨_, rfl⟩
  rw [← hw3]
  obtain ⟨g, hg⟩ : ∃ g, g = w2.heap.size := ⟨_, rfl⟩
  have hy : Bytes w3 g (List.replicate n 0) := by rw [hw3, hg]; exact Bytes.of_made (Blk.new _ _ _)
  have hB3 := B2.out.alloc B2.out.size (Obj.cells (rowArr n fun _ => Value.int .u8 0) 5)
  rw [← hw3] at hB3
  rw [← hg]
  have htx := hy.text (P := Tryd.prog) (src := 46) (dst := 9) Tryd.underlying46 Tryd.underlying5 Tryd.underlying9 n n (by simp)
  have B3 := Lib.hid hB3
  clear hw3 hg hy hB3 B2 hmk
  rw [← HRR.out] at htx
  refine wp_loop_rounds 1 ?_
  rw [rounds_succ]
  go_wp2_with fail
  go_ret2
  exact ⟨rfl, B3.out⟩

theorem put_any (d : ByteArray) (v : Value) (qs : List Hol.Pc) (n : Nat) (w : World) (hP : Pcs w v (qs.map Hol.castP)) (hA : Hol.Asc n 0 qs) (hl : qs.length ≤ 20) (hn : n ≤ 4000) (hd : Hol.size qs = d.size) :
    Calls Tryd.prog 10 #[.string d, v, .int .i64 n] w fun e w' => e = .returned (.tuple #[.string ⟨(Hol.put d.data.toList qs n).toArray⟩, .nilIface]) ∧ Below w.heap.size w w' := by
  rcases rowq_ways hP with ⟨A, cap, rfl, rfl⟩ | ⟨b, off, cap, rfl, hb, h0, hc⟩
  · exact put_nil d A cap n w hn hd.symm
  · exact put_row d b off cap qs n w hP hb hc hA hl hn hd

end Go.Proofs.YtjlglmfogldbkaaDoor
