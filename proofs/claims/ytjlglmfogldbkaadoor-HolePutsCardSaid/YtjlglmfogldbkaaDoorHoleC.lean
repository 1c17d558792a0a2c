/-
  hole.Put.
-/
import Derived.Test.YtjlglmfogldbkaaDoorHoleB
import Derived.Test.YtjlglmfogldbkaaDoorCopy
import Derived.Test.YtjlglmfogldbkaaDoorSlices
import Derived.RegionTactic
import Derived.StillTailTactics
namespace Go.Proofs.YtjlglmfogldbkaaDoor
open Go.RowKit

theorem infoU8 : (Tryd.prog.info? 5).map (fun i => (i.zero, i.size, i.bytes)) = some (some (.int .u8 0), 1, 1) := by kernel_rfl
theorem Bytes.of_made {w : World} {g : Nat} {t : TypeId} {n : Nat} (h : Blk w g t (rowArr n fun _ => .int .u8 0)) : Bytes w g (List.replicate n 0) := fun j hj => by
  have hj' : j < n := by simpa using hj
  refine ⟨?_, h.frozen j⟩
  rw [h.cell j, rowArr_at n _ j hj', List.getElem_replicate]
  rfl
theorem sizeU8 (w : World) : (Go.sizeOf 5).run Tryd.prog w = .ok 1 w := by kernel_rfl

theorem size_drop (qs : List Hol.Pc) (i : Nat) (hi : i < qs.length) : Hol.size (qs.drop i) = qs[i].2 + Hol.size (qs.drop (i + 1)) := by
  rw [List.drop_eq_getElem_cons hi]; rfl

set_option maxRecDepth 100000 in
set_option maxHeartbeats 1000000 in
theorem put_row (d : ByteArray) (b off cap : Nat) (qs : List Hol.Pc) (n : Nat) (w : World) (hP : Pcs w (.slice (some ⟨b, off, none⟩) qs.length cap) (qs.map Hol.castP)) (hb : b < w.heap.size) (hc : RowQ w b off qs) (hA : Hol.Asc n 0 qs) (hl : qs.length ≤ 20) (hn : n ≤ 4000) (hd : Hol.size qs = d.size) :
    Calls Tryd.prog 10 #[.string d, .slice (some ⟨b, off, none⟩) qs.length cap, .int .i64 n] w fun e w' => e = .returned (.tuple #[.string ⟨(Hol.put d.data.toList qs n).toArray⟩, .nilIface]) ∧ Below w.heap.size w w' := by
  have hsz := Hol.asc_size n qs 0 hA (by omega)
  have hR := right_asc hP hA hl (by omega)
  have hbz := fun w2 (h2 : Below w.heap.size w w2) => size_any _ qs w2 (hP.below h2) (by omega) (by omega)
  have hmk := run_make_one (P := Tryd.prog) 46 5 (.int .u8 0) 1 Tryd.underlying46 infoU8 rfl n (n : Int) rfl (by omega) (by omega)
  obtain ⟨R, hRR⟩ : ∃ R, R = Hol.put d.data.toList qs n := ⟨_, rfl⟩
  rw [← hRR]
  have HR := Lib.hid hR
  have HZ := Lib.hid hbz
  have HRR := Lib.hid hRR
  have HC := Lib.hid hc
  have HA := Lib.hid hA
  have k1 : ((d.size : Int) != (Hol.size qs : Int)) = false := by simp; omega
  have k2 : ¬ (4000 : Int) < n := by omega
  have HD := Lib.hid hd
  clear hR hbz hRR hc hA hP hd
  go_enter Tryd.func10, Tryd.ntmps10
  go_wp2_with fail
  refine HR.out.mono ?_
  rintro e w1 ⟨rfl, h1⟩
  have B1 := Lib.hid h1
  clear h1
  go_wp2_with fail
  refine (HZ.out _ B1.out).mono ?_
  rintro e w2 ⟨rfl, h2⟩
  have B2 := Lib.hid (thenB B1.out h2)
  clear h2 B1
  go_wp2_with fail
  obtain ⟨w3, hw3⟩ : ∃ w3, w3 = w2.alloc (Obj.cells (rowArr n fun _ => Value.int .u8 0) 5) := ⟨_, rfl⟩
  rw [← hw3]
  obtain ⟨g, hg⟩ : ∃ g, g = w2.heap.size := ⟨_, rfl⟩
  have hy : Bytes w3 g (List.replicate n 0) := by rw [hw3, hg]; exact Bytes.of_made (Blk.new _ _ _)
  have hgw : w.heap.size ≤ g := by rw [hg]; exact B2.out.size
  have hg3 : g < w3.heap.size := by rw [hw3, hg]; simp
  have hB3 : Below w.heap.size w w3 := by rw [hw3]; exact B2.out.alloc B2.out.size _
  rw [← hg]
  have HY := Lib.hid hy
  have B3 := Lib.hid hB3
  clear hw3 hg hy hB3 B2 hmk
  go_loopg [0, 30] (qs.length) (fun gg dv iv wr => ∃ (i : Nat) (D : ByteArray) (L : List UInt8), iv = .int .i64 i ∧ dv = .string D ∧ i ≤ qs.length ∧ gg + i = qs.length ∧ Below w.heap.size w wr ∧ g < wr.heap.size ∧ Bytes wr g L ∧ L.length = n ∧ D.size = Hol.size (qs.drop i) ∧ R = Hol.putGo L D.data.toList (qs.drop i))
  case atStart => exact ⟨0, d, List.replicate n 0, rfl, rfl, by omega, by omega, B3.out, hg3, HY.out, by simp, HD.out.symm, HRR.out⟩
  case round =>
    obtain ⟨i, D, L, rfl, rfl, hi1, hg, hbw, hgr, hy, hLn, hDs, hRR⟩ := hrel
    have Hg := Lib.hid hg
    have HW := Lib.hid hbw
    have HRR2 := Lib.hid hRR
    have HLn := Lib.hid hLn
    clear hg hbw hRR hLn HRR HY B3
    by_cases hi : i < qs.length
    · have hi3 : (i : Int) < qs.length := by omega
      have c1 := (HW.out.cell (p := ⟨b, off + i * 2, none⟩) hb).trans (HC.out i hi).1
      have c2 := (HW.out.cell (p := ⟨b, off + i * 2 + 1, none⟩) hb).trans (HC.out i hi).2
      have hm := asc_mem n qs 0 HA.out qs[i] (List.getElem_mem hi)
      have hsd := size_drop qs i hi
      have hdr : qs.drop i = (qs[i].1, qs[i].2) :: qs.drop (i + 1) := List.drop_eq_getElem_cons hi
      obtain ⟨a, ha⟩ : ∃ a, a = qs[i].1 := ⟨_, rfl⟩
      obtain ⟨t, ht⟩ : ∃ t, t = qs[i].2 := ⟨_, rfl⟩
      rw [← ha] at c1
      rw [← ht] at c2
      rw [← ha, ← ht] at hm hdr
      rw [← ht] at hsd
      obtain ⟨m1, m2⟩ := hm
      have hx1 := ext_size D 0 t (by omega)
      have hxl : (D.extract 0 t).data.toList = D.data.toList.take t := ext_to D t
      have hxr : (D.extract t D.size).data.toList = D.data.toList.drop t := ext_end D t
      have hxs : (D.extract t D.size).size = Hol.size (qs.drop (i + 1)) := by rw [ext_size D t D.size (Nat.le_refl _)]; omega
      have htD : t ≤ D.size := by omega
      have hR2 : R = Hol.putGo (over L a (D.extract 0 t).data.toList) (D.extract t D.size).data.toList (qs.drop (i + 1)) := by
        rw [HRR2.out, hdr, hxl, hxr]; rfl
      have hy2 := (hy.alloc hgr (.cells #[.int .i64 (a : Int), .int .i64 (t : Int)] 36)).drew
      have hcp := run_copy_string (P := Tryd.prog) (wr.alloc (.cells #[.int .i64 (a : Int), .int .i64 (t : Int)] 36)).drew 46 9 3 5 g a (n - a) (n - a) (D.extract 0 t) Tryd.underlying46 sizeU8 (by omega)
        (fun j hj => by rw [hy2.cell (j := a + j) (by rw [HLn.out]; omega)]; rfl) (fun j hj => hy2.frozen (j := a + j) (by rw [HLn.out]; omega))
      have hy3 := hy2.copied a (D.extract 0 t) (by rw [HLn.out]; omega)
      have hov : (over L a (D.extract 0 t).data.toList).length = n := by rw [over_len _ _ _ (by rw [HLn.out, list_size]; omega)]; exact HLn.out
      have hbx : ((wr.alloc (.cells #[.int .i64 (a : Int), .int .i64 (t : Int)] 36)).drew.setCells g a (textCells (D.extract 0 t))).cell? ⟨wr.heap.size, 1, none⟩ = some (.int .i64 (t : Int)) := by
        rw [World.cell?_setCells_out g _ a _ ⟨wr.heap.size, 1, none⟩ (fun e _ => by have : wr.heap.size = g := e; omega)]
        exact (Blk.new wr 36 #[.int .i64 (a : Int), .int .i64 (t : Int)]).cell 1
      have hbl : Below w.heap.size w ((wr.alloc (.cells #[.int .i64 (a : Int), .int .i64 (t : Int)] 36)).drew.setCells g a (textCells (D.extract 0 t))) := below_setCells (HW.out.alloc HW.out.size _).drew g hgw _ _
      have hgz : g < ((wr.alloc (.cells #[.int .i64 (a : Int), .int .i64 (t : Int)] 36)).drew.setCells g a (textCells (D.extract 0 t))).heap.size := by rw [size_setCells]; simp; omega
      obtain ⟨w5, hw5⟩ : ∃ w5, w5 = (wr.alloc (.cells #[.int .i64 (a : Int), .int .i64 (t : Int)] 36)).drew.setCells g a (textCells (D.extract 0 t)) := ⟨_, rfl⟩
      have hcp2 : (Builtin.copy_ #[46, 9] 3 #[.slice (some ⟨g, a, none⟩) (n - a) (n - a), .string (D.extract 0 t)]).run Tryd.prog (wr.alloc (.cells #[.int .i64 (a : Int), .int .i64 (t : Int)] 36)).drew = .ok (goInt (D.extract 0 t).size) w5 := by rw [hw5]; exact hcp
      rw [← hw5] at hbx hbl hgz hy3
      clear hw5 hcp
      have HBL := Lib.hid hbl
      have HR3 := Lib.hid hR2
      have HY3 := Lib.hid hy3
      have HOV := Lib.hid hov
      have HXS := Lib.hid hxs
      have m3 : (a : Int) ≤ n := by omega
      have m4 : (t : Int) ≤ D.size := by omega
      clear ha ht hsd hdr hxl hxr hxs hR2 hy2 hy3 hov hDs hx1 hy HRR2 hbl
      go_wp2_with fail
      go_region
      all_goals
        go_wp2_with fail
        go_roundg (qs.length - (i + 1))
        case measure => have := Hg.out; omega
        case rel => exact ⟨i + 1, _, _, by go_num, rfl, by omega, by omega, HBL.out, hgz, HY3.out, HOV.out, HXS.out, HR3.out⟩
    · have hi3 : (qs.length : Int) ≤ i := by omega
      have hr : R = L := by rw [HRR2.out, List.drop_of_length_le (by omega)]; rfl
      have htx := hy.text (P := Tryd.prog) (src := 46) (dst := 9) Tryd.underlying46 Tryd.underlying5 Tryd.underlying9 n n HLn.out
      rw [← hr] at htx
      clear hr hDs HRR2 hy
      go_wp2_with fail
      go_ret2
      exact ⟨rfl, HW.out⟩

end Go.Proofs.YtjlglmfogldbkaaDoor
