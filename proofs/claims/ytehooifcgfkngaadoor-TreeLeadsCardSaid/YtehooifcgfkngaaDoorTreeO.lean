/-
  planted: a tree by actions.
-/
import Derived.Test.YtehooifcgfkngaaDoorTreeN
namespace Go.Proofs.YtehooifcgfkngaaDoor
open Go.RowKit Go.Maps Tre

/-- Too large to be held. -/
def bigD (x : Deed) : Bool := decide (600 < x.name.length + x.to.length + x.node.link.length) || decide (1500 < x.node.data.length)
def bigL (l : List Deed) : Bool := decide (60 < l.length) || l.any bigD

set_option maxRecDepth 100000 in
theorem big_any (x : Deed) (hf : Fits x) (w : World) : Calls Tryd.prog 25 #[dv x] w fun e w' => e = .returned (.bool (bigD x)) ∧ Below w.heap.size w w' := by
  obtain ⟨what, name, dest, n, node⟩ := x
  obtain ⟨n0, n1, n2, n3, n4, n5, n6, n7, n8, n9⟩ := node
  obtain ⟨_, f1, f2, f3, f4⟩ := hf
  unfold dv dvc bigD
  simp only at f1 f2 f3 f4 ⊢
  have s1 : (bs name).size = name.length := rfl
  have s2 : (bs dest).size = dest.length := rfl
  have s3 : (bs n7).size = n7.length := rfl
  have s4 : (bs n6).size = n6.length := rfl
  rw [← s1, ← s2, ← s3, ← s4]
  rw [← s1] at f1
  rw [← s2] at f2
  rw [← s4] at f3
  rw [← s3] at f4
  generalize bs name = A at *
  generalize bs dest = B at *
  generalize bs n7 = C at *
  generalize bs n6 = D at *
  clear s1 s2 s3 s4
  have hB : ∀ w : World, Below w.heap.size w (w.alloc (.cells #[.int .i64 what, .string A, .string B, .int .i64 n, .int .u8 n0, .int .i64 n1, .int .i64 n2, .int .i64 n3, .int .i64 n4, .int .i64 n5, .string D, .string C, .int .i64 n8, .int .i64 n9] 43)) := fun w => (Below.refl _ _).alloc (Nat.le_refl _) _
  have HB := Lib.hid (hB w)
  clear hB
  by_cases h1 : 600 < A.size + B.size + C.size
  · have k1 : (600 : Int) < (A.size : Int) + B.size + C.size := by omega
    have e : (decide (600 < A.size + B.size + C.size) || decide (1500 < D.size)) = true := by simp [h1]
    rw [e]
    clear e h1
    go_enter Tryd.func25, Tryd.ntmps25
    go_wp2_with fail
    go_ret
    exact ⟨rfl, HB.out⟩
  · have k1 : ¬ (600 : Int) < (A.size : Int) + B.size + C.size := by omega
    by_cases h2 : 1500 < D.size
    · have k2 : (1500 : Int) < D.size := by omega
      have e : (decide (600 < A.size + B.size + C.size) || decide (1500 < D.size)) = true := by simp [h2]
      rw [e]
      clear e h1 h2
      go_enter Tryd.func25, Tryd.ntmps25
      go_wp2_with fail
      go_ret
      exact ⟨rfl, HB.out⟩
    · have k2 : ¬ (1500 : Int) < D.size := by omega
      have e : (decide (600 < A.size + B.size + C.size) || decide (1500 < D.size)) = false := by simp [h2]; omega
      rw [e]
      clear e h1 h2
      go_enter Tryd.func25, Tryd.ntmps25
      go_wp2_with fail
      go_ret
      exact ⟨rfl, HB.out⟩

set_option maxRecDepth 100000 in
set_option maxHeartbeats 2000000 in
theorem index_deeds (l : List Deed) (b off c : Nat) (w : World) (hb : b < w.heap.size) (hrow : RowD w b off l) (hl : l.length ≤ 1000000) (hf : ∀ x ∈ l, Fits x) :
    Calls Tryd.prog 46 #[.slice (some ⟨b, off, none⟩) l.length c, .func (.func 25) #[] #[]] w fun e w' => ∃ i : Int, e = .returned (.int .i64 i) ∧ decide (0 ≤ i) = l.any bigD ∧ Below w.heap.size w w' := by
  have R := Lib.hid hrow
  have HF := Lib.hid hf
  have hli : (l.length : Int) ≤ 1000000 := by omega
  clear hrow hf
  go_enter Tryd.func46, Tryd.ntmps46
  go_wp2_with fail
  go_loopg [5, 8] (l.length) (fun gg _ iv wr => ∃ i : Nat, iv = .int .i64 i ∧ i ≤ l.length ∧ gg = l.length - i ∧ Hid (Below w.heap.size w wr) ∧ Hid (∀ x ∈ l.take i, bigD x = false))
  case atStart => exact ⟨0, rfl, by omega, by omega, Lib.hid (Below.refl _ _), Lib.hid (by simp)⟩
  case round =>
    obtain ⟨i, rfl, hi, hg, HW, HN⟩ := hrel
    have HG := Lib.hid hg
    clear hg
    by_cases hil : i < l.length
    · have hii : (i : Int) < l.length := by omega
      have rw_ := R.out.below HW.out hb
      have hts : l.take (i + 1) = l.take i ++ [l[i]] := List.take_succ_eq_append_getElem hil
      have hmem : l[i] ∈ l := List.getElem_mem hil
      have PP := Lib.hid (fun w => big_any l[i] (HF.out l[i] hmem) w)
      have hcell := rw_ i hil
      obtain ⟨x, hx⟩ : ∃ x, x = l[i] := ⟨_, rfl⟩
      rw [← hx] at hcell PP hts hmem
      have HTS := Lib.hid hts
      have HME := Lib.hid hmem
      obtain ⟨r, hr⟩ : ∃ r, r = bigD x := ⟨_, rfl⟩
      rw [← hr] at PP
      have HR := Lib.hid hr
      have d0 : wr.cell? ⟨b, off + i * 14, none⟩ = some (.int .i64 x.what) := hcell 0 (by omega)
      have d1 : wr.cell? ⟨b, off + i * 14 + 1, none⟩ = some (.string (bs x.name)) := hcell 1 (by omega)
      have d2 : wr.cell? ⟨b, off + i * 14 + 2, none⟩ = some (.string (bs x.to)) := hcell 2 (by omega)
      have d3 : wr.cell? ⟨b, off + i * 14 + 3, none⟩ = some (.int .i64 x.n) := hcell 3 (by omega)
      have d4 : wr.cell? ⟨b, off + i * 14 + 4, none⟩ = some (.int .u8 x.node.kind) := hcell 4 (by omega)
      have d5 : wr.cell? ⟨b, off + i * 14 + 5, none⟩ = some (.int .i64 x.node.mode) := hcell 5 (by omega)
      have d6 : wr.cell? ⟨b, off + i * 14 + 6, none⟩ = some (.int .i64 x.node.uid) := hcell 6 (by omega)
      have d7 : wr.cell? ⟨b, off + i * 14 + 7, none⟩ = some (.int .i64 x.node.gid) := hcell 7 (by omega)
      have d8 : wr.cell? ⟨b, off + i * 14 + 8, none⟩ = some (.int .i64 x.node.sec) := hcell 8 (by omega)
      have d9 : wr.cell? ⟨b, off + i * 14 + 9, none⟩ = some (.int .i64 x.node.nano) := hcell 9 (by omega)
      have d10 : wr.cell? ⟨b, off + i * 14 + 10, none⟩ = some (.string (bs x.node.data)) := hcell 10 (by omega)
      have d11 : wr.cell? ⟨b, off + i * 14 + 11, none⟩ = some (.string (bs x.node.link)) := hcell 11 (by omega)
      have d12 : wr.cell? ⟨b, off + i * 14 + 12, none⟩ = some (.int .i64 x.node.major) := hcell 12 (by omega)
      have d13 : wr.cell? ⟨b, off + i * 14 + 13, none⟩ = some (.int .i64 x.node.minor) := hcell 13 (by omega)
      unfold dv dvc at PP
      clear rw_ hcell hx hts hmem hr
      go_wp2_with fail
      refine (PP.out _).mono ?_
      rintro e w1 ⟨rfl, h1⟩
      have B1 := Lib.hid (thenB HW.out h1)
      clear h1
      cases r
      · go_wp2_with fail
        go_roundg (l.length - (i + 1))
        case measure => have := HG.out; omega
        case rel => exact ⟨i + 1, by go_num, by omega, rfl, B1, Lib.hid (fun y hy => by
          rw [HTS.out] at hy
          rcases List.mem_append.1 hy with hy | hy
          · exact HN.out y hy
          · rw [List.mem_singleton.1 hy]; exact HR.out.symm)⟩
      · go_wp2_with fail
        go_ret
        refine ⟨_, rfl, ?_, B1.out⟩
        rw [List.any_eq_true.2 ⟨x, HME.out, HR.out.symm⟩]
        exact decide_eq_true (by omega)
    · have hii : (l.length : Int) ≤ i := by omega
      go_wp2_with fail
      go_ret
      refine ⟨_, rfl, ?_, HW.out⟩
      have h := HN.out
      rw [List.take_of_length_le (by omega)] at h
      rw [List.any_eq_false.2 (fun x hx => by rw [h x hx]; simp)]
      rfl

end Go.Proofs.YtehooifcgfkngaaDoor
